/- What a cache's calls do, as plain functions, and their contracts: begin, room, Clone, Send. -/
import Derived.Test.YtglkgmomnbdkoaaCh1
namespace Go.Proofs.Ytglkgmomnbdkoaa
namespace Ev
variable {ext : Nat → Nat → Option Value} {H : Heap}

theorem splice_all {l vs : List Value} (h : l.length = vs.length) : splice 0 l vs = some vs := by
  rw [splice_of (by omega)]; simp [h]

/-- A new variable, and its first value. -/
theorem new_st {zs : List Value} {t : TypeId} {n : Nat} {v : Value} {K : Heap → Prop} (hn : zs.length = n) (hl : (cellsOf v).length = n) (hone : (cellsOf v).all one = true)
    (k : ∀ H', H'.next = H.next + 1 → H'.get H.next = some (.cells (cellsOf v) t) → Ext H H' → K H') : St (H.alloc (.cells zs t)) (.pointer (some ⟨H.next, 0, none⟩)) n v K := by
  rw [St_ptr]
  refine ⟨hl, ?_⟩
  rw [wrN_own (Heap.get_alloc_self _ _) hone, splice_all (by omega)]
  simp only [Option.map_some, Ok_some]
  exact k _ (by simp) (by simp) ((Kp.alloc _ _ _).set' _ (by simp))

/-- One cell of a block is written. -/
theorem st_one {b o : Nat} {l : List Value} {t : TypeId} {v : Value} {K : Heap → Prop} (hg : H.get b = some (.cells l t)) (hv : one v = true) (ho : o < l.length) (k : K (H.set b (.cells (l.set o v) t))) :
    St H (.pointer (some ⟨b, o, none⟩)) 1 v K := by
  rw [St_ptr, cellsOf_one hv]
  refine ⟨rfl, ?_⟩
  rw [wrN_own hg (by simp [hv]), splice_of (by simp; omega)]
  simp only [Option.map_some, Ok_some]
  have : l.take o ++ [v] ++ l.drop (o + [v].length) = l.set o v := by
    rw [List.set_eq_take_append_cons_drop, if_pos ho]; simp
  rw [this]; exact k

/-- The same, with what is known behind it. -/
theorem st_one' {b o : Nat} {l : List Value} {t : TypeId} {v : Value} {K : Heap → Prop} (hg : H.get b = some (.cells l t)) (hv : one v = true) (ho : o < l.length)
    (k : ∀ H', H'.next = H.next → H'.get b = some (.cells (l.set o v) t) → Kp (fun x => x = b) H H' → K H') : St H (.pointer (some ⟨b, o, none⟩)) 1 v K :=
  st_one hg hv ho (k _ (by simp) (by simp) (Kp.set _ _ _ fun _ => rfl))

/-! begin -/
def bgn (S : Ca) (now : Int) : Int × Ca :=
  if now < 0 ∨ 1099511627776 < now then (2, S) else if now < S.last then (18, S) else (0, { S with last := now })

theorem bgn_ok {S : Ca} (h : CaOk S) (now : Int) : CaOk (bgn S now).2 := by
  unfold bgn
  split
  · exact h
  · split
    · exact h
    · exact ⟨h.mac, h.ip, by simp; omega, h.lost, h.len, h.keys, h.rng, h.ens⟩

theorem c23 {fp : Nat → Prop} {c mb : Nat} {S : Ca} (h : CAt ext H fp c mb S) (now : Int) :
    C (Z ext) 23 [.pointer (some ⟨c, 0, none⟩), .int .i64 now] H fun r H' => r = .int .i64 (bgn S now).1 ∧ CAt ext H' fp c mb (bgn S now).2 ∧ Kp (fun b => b = c) H H' ∧ H'.next = H.next := by
  refine C_all fun Q hQ => ?_
  apply w23_ok rfl
  simp only [w23, eql_24, Option.isNone_some, Ok_some, Br_false, bin_lss, bin_gtr, Br_dec, nilCheck_ptr, FA_ptr, Ld1_ptr, rd1_own h.cell, cacheC, getN_zero, getN_succ, Nat.zero_add]
  refine ⟨fun h1 => ?_, fun h1 => ⟨fun h2 => ?_, fun h2 => ⟨fun h3 => ?_, fun h3 => ?_⟩⟩⟩
  · have e : bgn S now = (2, S) := by unfold bgn; rw [if_pos (.inl h1)]
    rw [e] at hQ; exact hQ _ _ ⟨rfl, h, .refl _ _, rfl⟩
  · have e : bgn S now = (2, S) := by unfold bgn; rw [if_pos (.inr h2)]
    rw [e] at hQ; exact hQ _ _ ⟨rfl, h, .refl _ _, rfl⟩
  · have e : bgn S now = (18, S) := by unfold bgn; rw [if_neg (by omega), if_pos h3]
    rw [e] at hQ; exact hQ _ _ ⟨rfl, h, .refl _ _, rfl⟩
  · have e : bgn S now = (0, { S with last := now }) := by unfold bgn; rw [if_neg (by omega), if_neg h3]
    rw [e] at hQ
    refine st_one h.cell (by simp) (by simp [cacheC]) (hQ _ _ ⟨rfl, ?_, Kp.set _ _ _ fun _ => rfl, rfl⟩)
    exact h.cells now S.lost

/-! room -/
def oldF (l : List (Int × En)) (s : Int × Bool) (k : Int) : Int × Bool :=
  if ((fnd k l).getD en0).known = true ∧ (s.2 = false ∨ ((fnd k l).getD en0).at_ < ((fnd s.1 l).getD en0).at_) then (k, true) else s

def oldest (l : List (Int × En)) : Int × Bool := (sortL (l.map (·.1))).foldl (oldF l) (0, false)

def roomP (S : Ca) : Bool × Ca :=
  if S.all.length < 8 then (true, S) else if (oldest S.all).2 then (true, { S with all := del (oldest S.all).1 S.all }) else (false, S)

theorem roomP_ok {S : Ca} (h : CaOk S) : CaOk (roomP S).2 := by
  unfold roomP
  split
  · exact h
  · split
    · exact h.del _
    · exact h

theorem enV_cells (e : En) (wv : Value) : cellsOf (enV e wv) = [.bool e.known, .int .u64 e.mac, .int .i64 e.at_, .int .i64 e.tries, wv] := rfl

theorem c25 {fp : Nat → Prop} {c mb : Nat} {S : Ca} (h : CAt ext H fp c mb S) (ho : CaOk S) :
    C (Z ext) 25 [.pointer (some ⟨c, 0, none⟩)] H fun r H' => r = .bool (roomP S).1 ∧ CAt ext H' fp c mb (roomP S).2 ∧ Kp (fun b => b = mb) H H' := by
  refine C_all fun Q hQ => ?_
  obtain ⟨ms, clock, g1, g2, g3⟩ := h.map
  apply w25_ok rfl
  simp only [w25, nilCheck_ptr, Ok_some, FA_ptr, Ld1_ptr, rd1_own h.cell, cacheC, getN_zero, getN_succ, Nat.zero_add, len_map tt_62 rfl g1, Ok2_some, bin_lss, Br_dec, g2.length]
  refine ⟨fun h1 => ?_, fun h1 => ?_⟩
  · have e : roomP S = (true, S) := by unfold roomP; rw [if_pos (by omega)]
    rw [e] at hQ; exact hQ _ _ ⟨rfl, h, .refl _ _⟩
  refine C_mono (c30 h ho) ?_
  rintro r H1 ⟨o1, f1, E1⟩
  have hks : ∀ (ks : List Int), (sortL (S.all.map (·.1))) = ks → ks.length = S.all.length := by
    rintro _ rfl; rw [(sortL_perm _).length_eq]; simp
  have hmem : ∀ k ∈ sortL (S.all.map (·.1)), 0 ≤ k ∧ k < 4294967296 := by
    intro k hk
    obtain ⟨a, ha, rfl⟩ := List.mem_map.1 ((sortL_perm _).mem_iff.1 hk)
    exact ho.rng a ha
  generalize hkk : sortL (S.all.map (·.1)) = ks at o1 hmem
  have hlen := hks ks hkk
  obtain ⟨p, cp, rfl⟩ := o1.len
  simp only [len_74, Ok2_some]
  intro P hP
  have hcells := o1.cells (X := Z ext)
  refine loop_up ks.length (fun i vs H' => vs = [.int .u32 ((ks.take i).foldl (oldF S.all) (0, false)).1, .bool ((ks.take i).foldl (oldF S.all) (0, false)).2, .int .i64 i] ∧ Ext H1 H') ?_ ?_ (Nat.zero_le _) ⟨rfl, .refl _ _⟩
  · rintro i vs H2 hi ⟨rfl, E2⟩ k
    apply hP
    have hE := E1.trans E2
    have h2 := h.kp hE (fun _ _ => id)
    obtain ⟨x, hx⟩ : ∃ x, ks[i]? = some x := ⟨ks[i], List.getElem?_eq_getElem hi⟩
    have o2 := o1.kp E2 (fun _ _ => id)
    rcases o2.2 with ⟨h0, -⟩ | ⟨b, hb, hbl, hbg⟩
    · omega
    cases hb
    have hstep : (ks.take (i + 1)).foldl (oldF S.all) (0, false) = oldF S.all ((ks.take i).foldl (oldF S.all) (0, false)) x := by
      rw [List.take_add_one, hx]; simp [List.foldl_append]
    generalize hs : (ks.take i).foldl (oldF S.all) (0, false) = s at hstep
    simp only [bin_lss, Ok_some, Br_dec]
    refine ⟨fun _ => ?_, fun h => absurd (by omega) h⟩
    simp only [IA_slice]
    refine ⟨by omega, ?_⟩
    have e1 : 0 + (i : Int).toNat * 1 = i := by omega
    have hgx : (ks.map (Value.int .u32))[i]? = some (.int .u32 x) := by simp [hx]
    obtain ⟨wv, hw, -, hlk⟩ := h2.look x
    simp only [e1, Ld1_ptr, rd1_own hbg, getN_eq, hgx, Ok_some, nilCheck_ptr, FA_ptr, rd1_own h2.cell, cacheC, hlk, Al_eq]
    simp only [Nat.zero_add, List.getElem?_cons_succ, List.getElem?_cons_zero, Ok_some, hlk]
    refine new_st rfl (by simp [enV_cells]) (by simp [enV_cells, hw.one]) ?_
    intro H3 n3 hg3 E3
    have h3 := h2.kp E3 (fun _ _ => id)
    obtain ⟨wv', hw', -, hlk'⟩ := h3.look s.1
    have hcell3 := h3.cell
    have hinc : wrapF .i64 ((i : Int) + 1) = ((i + 1 : Nat) : Int) := by rw [wrap_i64 (by have := ho.len; omega)]; simp
    simp only [enV_cells] at hg3
    simp only [rd1_own hg3, getN_zero, getN_succ, Ok_some, Br_bool, un_not, bin_add, hinc, Bool.not_eq_true', rd1_own hcell3, cacheC, hlk', enV, field_67_2, bin_lss, Br_dec]
    refine ⟨fun hkn => ⟨fun hf => ?_, fun hf => ⟨fun hat => ?_, fun hat => ?_⟩⟩, fun hkn => ?_⟩
    · refine k _ _ ⟨?_, E2.trans E3⟩
      rw [hstep]; simp [oldF, hkn, hf]
    · refine k _ _ ⟨?_, E2.trans E3⟩
      rw [hstep]; simp [oldF, hkn, of_decide_eq_true hat]
    · refine k _ _ ⟨?_, E2.trans E3⟩
      rw [hstep]; simp [oldF, hkn, of_decide_eq_false hat, show s.2 = true by simpa using hf]
    · refine k _ _ ⟨?_, E2.trans E3⟩
      rw [hstep]; simp [oldF, hkn]
  · rintro vs H2 ⟨rfl, E2⟩
    apply hP
    have hE := E1.trans E2
    have h2 := h.kp hE (fun _ _ => id)
    rw [List.take_length]
    have hold : oldest S.all = ks.foldl (oldF S.all) (0, false) := by unfold oldest; rw [hkk]
    rw [← hold]
    simp only [bin_lss, Ok_some, Br_dec]
    refine ⟨fun h => absurd h (by omega), fun _ => ?_⟩
    obtain ⟨H3, e3, k3, kp3, n3⟩ := h2.delete (oldest S.all).1
    simp only [Br_bool, nilCheck_ptr, Ok_some, FA_ptr, Ld1_ptr, rd1_own h2.cell, cacheC, getN_zero, getN_succ, Nat.zero_add, e3, Ok2_some]
    refine ⟨fun hf => ?_, fun hf => ?_⟩
    · have e : roomP S = (true, { S with all := del (oldest S.all).1 S.all }) := by unfold roomP; rw [if_neg (by omega), if_pos hf]
      rw [e] at hQ; rw [hf]
      exact hQ _ _ ⟨rfl, k3, (hE.mono fun _ _ h => h.elim).then kp3 fun _ _ h => h⟩
    · have e : roomP S = (false, S) := by unfold roomP; rw [if_neg (by omega), hf]; rfl
      rw [e] at hQ; rw [hf]
      exact hQ _ _ ⟨rfl, h2, hE.mono fun _ _ h => h.elim⟩

end Ev
end Go.Proofs.Ytglkgmomnbdkoaa
