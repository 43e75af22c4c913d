/- EVERY BODY IS TOLD IN A FRAME ONCE, OR WAITS, OR IS LOST: the law's own walk. No conditions. -/
import Derived.Test.YtglkgmomnbdkoaaCnt2
namespace Go.Proofs.Ytglkgmomnbdkoaa
open Go.ChangeShapes Go.WideShapes Go.ChangeAt Go.RowKit Go.Proofs Ev
namespace Ev
variable {W : World} {H : Heap}

theorem send_len {S : Ca} {to : Int} {bs : List Int} {now : Int} : (send S to bs now).2.1.length ≤ 1 := by
  unfold send
  split
  · simp
  · unfold sendB
    split
    · simp
    · split
      · simp
      · split
        · simp
        · split
          · simp
          · split <;> simp

theorem take_len {S : Ca} (h : CaOk S) {a : Ar} {now : Int} : (take S a now).2.1.length ≤ 5 := by
  unfold take
  split
  · simp
  · unfold takeB
    split
    · simp
    · have h1 : (takeL (bgn S now).2 a now).2.length ≤ 4 := by
        unfold takeL
        split
        · rename_i e he
          have := ((bgn_ok h now).find he).wait
          simpa using this
        · split
          · split <;> simp
          · simp
      simp only [List.length_append]
      split <;> simp <;> omega

theorem tick_len {S : Ca} (h : CaOk S) {now : Int} : (tick S now).2.1.length ≤ 8 := by
  unfold tick
  split
  · simp
  · rename_i he
    have ho := bgn_ok h now
    have := (TkI.take ho (now := now) (bgn_rng (S := S) (by omega)) _ (Nat.le_refl _)).len
    rw [List.take_length] at this
    have h8 : (sortL ((bgn S now).2.all.map (·.1))).length ≤ 8 := by rw [(sortL_perm _).length_eq]; simpa using ho.len
    show (tickB _ _).2.length ≤ 8
    unfold tickB
    omega

/-- What holds between deeds. -/
def Inv5 (W : World) (c mb : Nat) (i : Nat) (vs : List Value) (H : Heap) : Prop := ∃ fp S x7 x8, vs = [.int .i64 x7, .int .i64 x8, .int .i64 i] ∧ CAt (extOf W) H fp c mb S ∧ CaOk S ∧ S.mac = 5 ∧ S.lost ≤ 32 * i ∧ x7 = x8 + held S ∧ (0 ≤ x7 ∧ x7 ≤ i) ∧ (0 ≤ x8 ∧ x8 ≤ 1000 * i)

theorem FsOk.rng {mac : Int} : ∀ {fs : List (List Int)} {n : Int}, FsOk mac fs n → 0 ≤ n ∧ n ≤ fs.length
  | [], n, h => by simp only [FsOk] at h; subst h; simp
  | f :: fs, n, h => by
    obtain ⟨b, k, h1, h2, rfl⟩ := h
    have := FsOk.rng h2
    cases b <;> simp <;> omega

set_option maxHeartbeats 1000000 in
theorem c5 {ip : Int} (hip : 0 ≤ ip ∧ ip < 4294967296) {u : Value} {ds : List Deed} (hu : Script W u ds) (hl : ds.length ≤ maxLen) :
    C (Z (extOf W)) 5 [.int .u32 ip, u] H fun r _ => r = .bool true := by
  refine C_all fun Q hQ => ?_
  apply w5_ok rfl
  simp only [w5]
  refine C_mono (c9 5 ip (by omega)) ?_
  rintro r H1 (⟨h5, -, -⟩ | ⟨-, c, mb, rfl, h1, E1⟩)
  · omega
  have ho1 := new_ok (mac := 5) (ip := ip) (by omega) hip
  simp only [extract_mk, getN_zero, getN_succ, Ok_some, bin_neq, decide_true, Bool.not_true, Br_false, eql_24, Option.isNone_some]
  have hlen : ∃ p cp, u = .slice p ds.length cp := by
    rcases hu with ⟨rfl, rfl⟩ | ⟨b, o, cp, rfl, -⟩
    · exact ⟨_, _, rfl⟩
    · exact ⟨_, _, rfl⟩
  intro P hP
  have hend : ∀ H', C (Z (extOf W)) 14 [] H' fun r H'' => Q r H'' := fun H' => c14 (hQ _ _ rfl)
  refine loop_up (min ds.length 300) (fun i vs H' => Inv5 W c mb i vs H') ?_ ?_ (Nat.zero_le _) ⟨_, _, 0, 0, rfl, h1, ho1, rfl, by simp, by simp [held, wsum], by simp, by simp⟩
  · rintro i _ H2 hi ⟨fp, S, x7, x8, rfl, h2, ho, hmac, hlost, hbal, hx7, hx8⟩ k
    refine hP _ _ _ _ ?_
    obtain ⟨p, cp, hue⟩ := hlen
    rcases hu with ⟨rfl, rfl⟩ | ⟨b, o, cp', rfl, hd⟩
    · simp at hi
    obtain ⟨d, hdi⟩ : ∃ d, ds[i]? = some d := ⟨ds[i]'(by omega), List.getElem?_eq_getElem _⟩
    have hx := hd i d hdi
    have hm5 : (0 : Int) ≤ 5 ∧ (5 : Int) < 281474976710656 := by omega
    simp only [len_23, Ok2_some, bin_lss, Ok_some, Br_dec]
    refine ⟨fun _ => ⟨fun _ => ?_, fun h => absurd (by omega) h⟩, fun h => absurd (by omega) h⟩
    intro P2 hP2
    have hnext : ∀ (A : Ca) (fp' : Nat → Prop) (H0 H3 : Heap) (fv : Value) (fs : List (List Int)) (m y : Int), CAt (extOf W) H3 fp' c mb A → Kept S A 32 → Frs (extOf W) H0 H3 fp' fv fs → FsOk 5 fs m → fs.length ≤ 1000 → (0 ≤ y ∧ y ≤ i + 1) → y = x8 + m + held A → P2 [.int .i64 y, fv] H3 := by
      intro A fp' H0 H3 fv fs m y h3 hk hF hFs hfl hy hbal'
      refine hP2 _ _ _ ?_
      refine C_mono (c16 hF hFs hm5 hfl) ?_
      rintro _ H4 ⟨rfl, E4⟩
      have h4 := h3.kp E4 (fun _ _ => id)
      have hmr := hFs.rng
      simp only [extract_mk, getN_zero, getN_succ, Ok_some, un_not, Bool.not_true, Br_false, bin_add]
      rw [wrap_i64 (n := x8 + m) (by omega)]
      refine C_mono (c13 h4 hk.ok) ?_
      rintro r H5 ⟨o5, f5, E5⟩
      have h5 := h4.kp E5 (fun _ _ => id)
      have hl8 := hk.ok.len
      have htl := tableP_len A
      obtain ⟨q, cq, rfl⟩ := o5.len
      intro P3 hP3
      refine loop_up A.all.length (fun j vs H' => vs = [.int .i64 (wsum ((tableP A).take j)), .int .i64 j] ∧ H' = H5) ?_ ?_ (Nat.zero_le _) ⟨by simp [wsum], rfl⟩
      · rintro j _ _ hj ⟨rfl, rfl⟩ k3
        refine hP3 _ _ _ ?_
        rcases o5.2 with ⟨h0, -⟩ | ⟨sb, hsb, hsl, hsg⟩
        · omega
        cases hsb
        obtain ⟨a, ha⟩ : ∃ a, (tableP A)[j]? = some a := ⟨(tableP A)[j]'(by omega), List.getElem?_eq_getElem _⟩
        have g3 := tableC_get (j := 3) ha (by omega)
        have hinc : wrapF .i64 ((j : Int) + 1) = ((j + 1 : Nat) : Int) := by rw [wrap_i64 (by omega)]; simp
        have hw := wsum_le hk.ok j
        have hen := (hk.ok.findD a.1).wait
        rw [← tableP_get ha] at hen
        simp only [len_39, Ok2_some, bin_lss, Ok_some, Br_dec]
        refine ⟨fun _ => ?_, fun h => absurd (by omega) h⟩
        simp only [IA_slice]
        refine ⟨by omega, ?_⟩
        simp only [Int.toNat_natCast, Nat.zero_add, FA_ptr, Ld1_ptr, rd1_own hsg, getN_eq, g3, nbC, List.getElem?_cons_zero, List.getElem?_cons_succ, Ok_some, bin_add, hinc]
        rw [wrap_i64 (by omega)]
        exact k3 _ _ ⟨by rw [wsum_take ha], rfl⟩
      · rintro _ _ ⟨rfl, rfl⟩
        refine hP3 _ _ _ ?_
        have hw := wsum_le hk.ok A.all.length
        rw [List.take_of_length_le (by omega), tableP_sum hk.ok] at hw ⊢
        simp only [len_39, Ok2_some, bin_lss, Ok_some, Br_dec, bin_add]
        refine ⟨fun h => absurd h (by omega), fun _ => ?_⟩
        rw [wrap_i64 (by omega)]
        refine C_mono (c17 h5) ?_
        rintro _ _ ⟨rfl, rfl⟩
        have hlk := hk.lost
        have hl0 := hk.ok.lost
        rw [bin_add, Ok_some, wrap_i64 (by omega)]
        have hh : held A = wsum A.all + A.lost := rfl
        have heq : decide (y = x8 + m + wsum A.all + A.lost) = true := decide_eq_true (by omega)
        simp only [bin_neq, heq, Bool.not_true, Ok_some, Br_false, bin_add]
        rw [wrap_i64 (by omega)]
        exact k _ _ ⟨fp', A, y, x8 + m, by simp, h5, hk.ok, by rw [hk.mac, hmac], by push_cast; omega, hbal', by push_cast; omega, by push_cast; omega⟩
    have hlost2 : S.lost < 4611686018427387904 := by omega
    obtain ⟨bv, hbv, hbx, hbl⟩ := hx.body
    have hnow := hx.now
    refine IA_deed (by omega) ?_
    simp only [FA_ptr, Ld1_ptr, rd1_ext, Nat.add_zero, hx.do_, Ok_some, bin_eql, Br_dec]
    refine ⟨fun h0 => ?_, fun h0 => ⟨fun h1' => ?_, fun h1' => ?_⟩⟩
    · refine IA_deed (by omega) ?_
      simp only [FA_ptr, Ld1_ptr, rd1_ext, hx.to, Ok_some]
      refine IA_deed (by omega) ?_
      simp only [FA_ptr, Ld1_ptr, rd1_ext, hbv, Ok_some]
      refine IA_deed (by omega) ?_
      simp only [FA_ptr, Ld1_ptr, rd1_ext, hx.now, Ok_some]
      refine C_mono (c10 h2 ho hlost2 hx.toR (hbx.2 H2) (fun b hb => by rw [hbx.1] at hb; cases hb) d.now) ?_
      rintro _ H3 ⟨fv, fp', rfl, h3, hF, -, -⟩
      obtain ⟨n, hn1, hn2⟩ := send_counts ho (to := d.to) (bs := d.body) (hbx.2 H2).byt d.now
      rw [hmac] at hn1
      have hk := send_kept ho hx.toR d.body d.now
      have hsl := send_len (S := S) (to := d.to) (bs := d.body) (now := d.now)
      simp only [extract_mk, getN_zero, getN_succ, Ok_some, bin_eql, Br_dec, bin_add]
      rw [wrap_i64 (by omega)]
      refine ⟨fun e0 => ?_, fun e0 => ⟨fun e10 => ?_, fun e10 => ?_⟩⟩
      · rw [if_pos (.inl e0)] at hn2
        exact hnext _ _ _ _ _ _ _ _ h3 hk hF hn1 (by omega) (by omega) (by omega)
      · rw [if_pos (.inr e10)] at hn2
        exact hnext _ _ _ _ _ _ _ _ h3 hk hF hn1 (by omega) (by omega) (by omega)
      · rw [if_neg (by omega)] at hn2
        exact hnext _ _ _ _ _ _ _ _ h3 hk hF hn1 (by omega) (by omega) (by omega)
    · refine IA_deed (by omega) ?_
      simp only [FA_ptr, LdN_ptr, rdN_arp hx, Ok_some]
      refine IA_deed (by omega) ?_
      simp only [FA_ptr, Ld1_ptr, rd1_ext, hx.now, Ok_some]
      refine C_mono (c11 h2 ho hx.arp d.now) ?_
      rintro _ H3 ⟨fv, rfl, h3, hF, -⟩
      obtain ⟨n, hn1, hn2⟩ := take_counts ho h2.wb hx.arp d.now
      rw [hmac] at hn1
      have hsl := take_len ho (a := d.arp) (now := d.now)
      simp only [extract_mk, getN_zero, getN_succ, Ok_some]
      exact hnext _ _ _ _ _ _ _ _ h3 (take_kept ho hx.arp _) hF hn1 (by omega) (by omega) (by omega)
    · refine IA_deed (by omega) ?_
      simp only [FA_ptr, Ld1_ptr, rd1_ext, hx.now, Ok_some]
      refine C_mono (c12 h2 ho hlost2 d.now) ?_
      rintro _ H3 ⟨fv, rfl, h3, hF, -⟩
      obtain ⟨hn1, hn2⟩ := tick_counts (S := S) d.now
      rw [hmac] at hn1
      have hsl := tick_len ho (now := d.now)
      simp only [extract_mk, getN_zero, getN_succ, Ok_some]
      exact hnext _ _ _ _ _ _ _ _ h3 (tick_kept ho _) hF hn1 (by omega) (by omega) (by omega)
  · rintro _ H2 ⟨fp, S, x7, x8, rfl, -⟩
    refine hP _ _ _ _ ?_
    obtain ⟨p, cp, rfl⟩ := hlen
    simp only [len_23, Ok2_some, bin_lss, Ok_some, Br_dec]
    refine ⟨fun h => ⟨fun h' => absurd h' (by omega), fun _ => hend _⟩, fun _ => hend _⟩

end Ev
end Go.Proofs.Ytglkgmomnbdkoaa
