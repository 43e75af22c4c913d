/- What holds of a cache behind each call (plain), and what a table shows. -/
import Derived.Test.YtglkgmomnbdkoaaCh6
namespace Go.Proofs.Ytglkgmomnbdkoaa
namespace Ev
variable {ext : Nat → Nat → Option Value} {H : Heap}

structure Kept (S A : Ca) (n : Int) : Prop where
  ok : CaOk A
  mac : A.mac = S.mac
  ip : A.ip = S.ip
  lost : A.lost ≤ S.lost + n

theorem bgn_kept {S : Ca} (h : CaOk S) (now : Int) : Kept S (bgn S now).2 0 :=
  ⟨bgn_ok h now, (bgn_lost S now).2.1, (bgn_lost S now).2.2.1, by rw [(bgn_lost S now).1]; omega⟩

theorem Kept.trans {S A B : Ca} {n m : Int} (h : Kept S A n) (h' : Kept A B m) : Kept S B (n + m) := ⟨h'.ok, h'.mac.trans h.mac, h'.ip.trans h.ip, by have := h.lost; have := h'.lost; omega⟩
theorem Kept.mono {S A : Ca} {n m : Int} (h : Kept S A n) (hm : n ≤ m) : Kept S A m := ⟨h.ok, h.mac, h.ip, by have := h.lost; omega⟩

theorem roomP_kept {S : Ca} (h : CaOk S) : Kept S (roomP S).2 0 := by
  obtain ⟨h1, h2, h3, -⟩ := roomP_mac S
  exact ⟨roomP_ok h, h1, h2, by omega⟩

theorem lost_ok {S : Ca} (h : CaOk S) : CaOk { S with lost := S.lost + 1 } := ⟨h.mac, h.ip, h.last, by have := h.lost; simp; omega, h.len, h.keys, h.rng, h.ens⟩

theorem sendB_kept {S : Ca} (h : CaOk S) {to : Int} (ht : 0 ≤ to ∧ to < 4294967296) {now : Int} (hn : 0 ≤ now ∧ now ≤ 1099511627776) (bs : List Int) : Kept S (sendB S to bs now).1 1 := by
  unfold sendB
  split
  · exact ⟨h, rfl, rfl, by simp only; omega⟩
  · rename_i hb
    split
    · exact ⟨h, rfl, rfl, by simp only; omega⟩
    · rename_i hk
      split
      · exact ⟨lost_ok h, rfl, rfl, by simp⟩
      · rename_i h4
        split
        · rename_i e he
          have hen := h.find he
          rw [he] at hk h4
          simp only [Option.getD_some] at hk h4
          refine ⟨h.put ht ⟨hen.mac, hen.at_, hen.tries, ?_, ?_, fun hh => absurd hh hk⟩ (.inl (by rw [he]; rfl)), rfl, rfl, by simp only; omega⟩
          · have := hen.wait; simp; omega
          · intro b hb'
            rcases List.mem_append.1 hb' with hb' | hb'
            · exact hen.body b hb'
            · simp at hb'; subst hb'; omega
        · rename_i he
          obtain ⟨h1, h2, h3, -⟩ := roomP_mac S
          split
          · rename_i hr
            refine ⟨(roomP_ok h).put ht ⟨by simp, hn, by simp, by simp, ?_, by simp⟩ (.inr (roomP_len h hr)), h1, h2, by simp only; omega⟩
            intro b hb'
            simp at hb'; subst hb'; omega
          · exact ⟨lost_ok (roomP_ok h), h1, h2, by simp only; omega⟩

theorem send_kept {S : Ca} (h : CaOk S) {to : Int} (ht : 0 ≤ to ∧ to < 4294967296) (bs : List Int) (now : Int) : Kept S (send S to bs now).1 32 := by
  unfold send
  have hb := bgn_kept h now
  split
  · exact hb.mono (by omega)
  · rename_i he
    exact (hb.trans (sendB_kept hb.ok ht (bgn_rng (S := S) (by omega)) bs)).mono (by omega)

theorem takeL_kept {S : Ca} (h : CaOk S) {a : Ar} (ha : ArOk a) (hfm : a.fm < 281474976710655) {now : Int} (hn : 0 ≤ now ∧ now ≤ 1099511627776) : Kept S (takeL S a now).1 0 := by
  unfold takeL
  split
  · rename_i e he
    exact ⟨learn_ok h ha hfm hn (.inl (by rw [he]; rfl)), rfl, rfl, by simp [learn]⟩
  · split
    · have hr := roomP_kept h
      split
      · rename_i hr1
        exact ⟨learn_ok hr.ok ha hfm hn (.inr (roomP_len h hr1)), hr.mac, hr.ip, hr.lost⟩
      · exact hr
    · exact ⟨h, rfl, rfl, by simp⟩

theorem take_kept {S : Ca} (h : CaOk S) {a : Ar} (ha : ArOk a) (now : Int) : Kept S (take S a now).1 32 := by
  unfold take
  have hb := bgn_kept h now
  split
  · exact hb.mono (by omega)
  · rename_i he
    unfold takeB
    split
    · exact hb.mono (by omega)
    · exact (hb.trans (takeL_kept hb.ok ha (by omega) (bgn_rng (S := S) (by omega)))).mono (by omega)

theorem tick_kept {S : Ca} (h : CaOk S) (now : Int) : Kept S (tick S now).1 32 := by
  unfold tick
  have hb := bgn_kept h now
  split
  · exact hb.mono (by omega)
  · rename_i he
    obtain ⟨h1, h2, h3, -, h5⟩ := tickB_ok hb.ok (now := now) (bgn_rng (S := S) (by omega))
    exact (hb.trans ⟨h1, h2, h3, h5⟩).mono (by omega)

/-! a table's cells -/
theorem tableC_get : ∀ {l : List (Int × En)} {k : Nat} {a : Int × En} {j : Nat}, l[k]? = some a → j < 4 → (tableC l)[k * 4 + j]? = (nbC a.1 a.2)[j]?
  | [], k, a, j, h, _ => by simp at h
  | b :: l, 0, a, j, h, hj => by
    simp at h; subst h
    simp only [tableC, List.flatMap_cons, Nat.zero_mul, Nat.zero_add]
    rw [List.getElem?_append_left (by simp [nbC]; omega)]
  | b :: l, k + 1, a, j, h, hj => by
    have ih := tableC_get (l := l) (k := k) (a := a) (j := j) (by simpa using h) hj
    simp only [tableC, List.flatMap_cons] at ih ⊢
    rw [List.getElem?_append_right (by simp [nbC]; omega)]
    rw [show (k + 1) * 4 + j - (nbC b.1 b.2).length = k * 4 + j by simp [nbC]; omega]
    exact ih

theorem tableP_get {S : Ca} {k : Nat} {a : Int × En} (h : (tableP S)[k]? = some a) : a.2 = (fnd a.1 S.all).getD en0 := by
  simp only [tableP, List.getElem?_map, Option.map_eq_some_iff] at h
  obtain ⟨x, -, rfl⟩ := h
  rfl

theorem tableP_rises {S : Ca} (h : CaOk S) {i j : Nat} (hij : i < j) {a b : Int × En} (ha : (tableP S)[i]? = some a) (hb : (tableP S)[j]? = some b) : a.1 < b.1 := by
  simp only [tableP, List.getElem?_map, Option.map_eq_some_iff] at ha hb
  obtain ⟨x, hx, rfl⟩ := ha
  obtain ⟨y, hy, rfl⟩ := hb
  simp only
  obtain ⟨hi, hxe⟩ := List.getElem?_eq_some_iff.1 hx
  obtain ⟨hj, hye⟩ := List.getElem?_eq_some_iff.1 hy
  have h1 := List.pairwise_iff_getElem.1 (sortL_sorted (S.all.map (·.1))) i j hi hj hij
  have h2 := List.pairwise_iff_getElem.1 (nodup_sortL h.keys) i j hi hj hij
  rw [hxe, hye] at h1 h2
  omega

end Ev
end Go.Proofs.Ytglkgmomnbdkoaa
