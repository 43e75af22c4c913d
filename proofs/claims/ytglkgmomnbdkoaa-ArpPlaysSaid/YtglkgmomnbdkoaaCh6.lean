/- What a cache's calls do, and their contracts: New, Table, Lost. -/
import Derived.Test.YtglkgmomnbdkoaaCh5
namespace Go.Proofs.Ytglkgmomnbdkoaa
namespace Ev
variable {ext : Nat → Nat → Option Value} {H : Heap}

/-- Appending neighbours of a table. -/
theorem app39 {s x : Value} {n nx : Nat} {vs xs : List Value} (hs : Own H s 4 n vs 42) (hx : ∃ p c, x = .slice p nx c) (hc : cellsAt (Z ext) H (nx * 4) x = some xs) (hone : xs.all one = true) (hl : xs.length = nx * 4) (hn : n + nx ≤ 1099511627776) :
    ∃ v' H', builtin (Z ext) H .append [39, 39] [s, x] = some (v', H') ∧ Own H' v' 4 (n + nx) (vs ++ xs) 42 ∧ Kp (fun b => ob s = some b) H H' ∧
      ((ob v' = ob s ∧ H' = H ∧ v' = s ∧ nx = 0) ∨ (ob v' = some H.next ∧ H'.next = H.next + 1 ∧ nx ≠ 0 ∧ v' = .slice (some ⟨H.next, 0, none⟩) (n + nx) (unk + 4))) := by
  obtain ⟨p, c, rfl⟩ := hx
  obtain ⟨v', H', h1, h2, h3, h4⟩ := append_own (X := Z ext) (st := 39) (xt := 39) (i := Tab.i39) (ix := Tab.i39) (ie := Tab.i42) (z := 4) (nx := nx) (xs := xs) (x := .slice p nx c) tt_39 rfl tt_39 (by intro k; simp [Tab.i39]) tt_42 rfl (by omega) (by decide) rfl hs rfl
    (by simpa [srcCells] using hc) hone (by omega) (by simp only [Tab.i42]; omega)
  exact ⟨v', H', by simpa [builtin] using h1, h2, h3, h4⟩

def nbC (k : Int) (e : En) : List Value := [.int .u32 k, .int .u64 e.mac, .bool e.known, .int .i64 e.wait.length]
def tableP (S : Ca) : List (Int × En) := (sortL (S.all.map (·.1))).map fun k => (k, (fnd k S.all).getD en0)
def tableC (l : List (Int × En)) : List Value := l.flatMap fun a => nbC a.1 a.2

theorem tableC_len (l : List (Int × En)) : (tableC l).length = l.length * 4 := by
  induction l with
  | nil => rfl
  | cons a l ih => simp [tableC, nbC] at ih ⊢; omega

theorem tableP_len (S : Ca) : (tableP S).length = S.all.length := by
  simp only [tableP, List.length_map]; rw [(sortL_perm _).length_eq]; simp

/-- Table's contract. -/
theorem c13 {fp : Nat → Prop} {c mb : Nat} {S : Ca} (h : CAt ext H fp c mb S) (ho : CaOk S) :
    C (Z ext) 13 [.pointer (some ⟨c, 0, none⟩)] H fun r H' => Own H' r 4 S.all.length (tableC (tableP S)) 42 ∧ (∀ b, ob r = some b → H.next ≤ b) ∧ Ext H H' := by
  refine C_all fun Q hQ => ?_
  apply w13_ok rfl
  simp only [w13, eql_24, Option.isNone_some, Ok_some, Br_false]
  refine C_mono (c30 h ho) ?_
  rintro r H1 ⟨o1, f1, E1⟩
  have hkk : ∀ ks, sortL (S.all.map (·.1)) = ks → ks.length = S.all.length := by
    rintro _ rfl; rw [(sortL_perm _).length_eq]; simp
  have htp : tableP S = (sortL (S.all.map (·.1))).map fun k => (k, (fnd k S.all).getD en0) := rfl
  generalize hks : sortL (S.all.map (·.1)) = ks at o1 htp
  have hlen := hkk ks hks
  have hl8 := ho.len
  obtain ⟨p, cp, rfl⟩ := o1.len
  simp only [len_74, Ok2_some]
  intro P hP
  refine loop_up ks.length (fun i vs H' => ∃ x, vs = [x, .int .i64 i] ∧ Own H' x 4 i (tableC ((tableP S).take i)) 42 ∧ (∀ b, ob x = some b → H.next ≤ b ∧ H1.next ≤ b) ∧ Ext H1 H') ?_ ?_ (Nat.zero_le _) ⟨_, rfl, .nil _ _ _ _, by simp [ob], .refl _ _⟩
  · rintro i _ H2 hi ⟨x, rfl, ox, fx, E2⟩ k
    refine hP _ _ _ ?_
    obtain ⟨ky, hky⟩ : ∃ ky, ks[i]? = some ky := ⟨ks[i], List.getElem?_eq_getElem hi⟩
    have h2 := h.kp (E1.trans E2) (fun _ _ => id)
    have o2 := o1.kp E2 (fun _ _ => id)
    rcases o2.2 with ⟨h0, -⟩ | ⟨sb, hsb, hsl, hsg⟩
    · omega
    cases hsb
    simp only [bin_lss, Ok_some, Br_dec]
    refine ⟨fun _ => ?_, fun h => absurd (by omega) h⟩
    simp only [IA_slice]
    refine ⟨by omega, ?_⟩
    have e1 : 0 + (i : Int).toNat * 1 = i := by omega
    have hgx : (ks.map (Value.int .u32))[i]? = some (.int .u32 ky) := by simp [hky]
    obtain ⟨wv, hw, -, hlk⟩ := h2.look ky
    obtain ⟨wvs, pw, cw, rfl, hwc, hwB⟩ := hw.ex
    simp only [e1, Ld1_ptr, rd1_own hsg, getN_eq, hgx, Ok_some, nilCheck_ptr, FA_ptr, rd1_own h2.cell, cacheC, Al_eq]
    simp only [Nat.zero_add, List.getElem?_cons_succ, List.getElem?_cons_zero, Ok_some, hlk]
    refine new_st rfl (by simp [enV_cells]) (by simp [enV_cells]) ?_
    intro H3 n3 g3 E3
    simp only [enV_cells] at g3
    simp only [rd1_own g3, List.getElem?_cons_succ, List.getElem?_cons_zero, getN_eq, Ok_some, len_34, Ok2_some, build_42_0123, one_int, one_bool, bsl_39_1]
    have E4 : Ext H3 (H3.alloc (.cells [.int .u32 ky, .int .u64 ((fnd ky S.all).getD en0).mac, .bool ((fnd ky S.all).getD en0).known, .int .i64 ((fnd ky S.all).getD en0).wait.length] 42)) := .alloc _ _ _
    obtain ⟨v5, H5, e5, o5, k5, hob⟩ := app39 (ext := ext) ((ox.kp E3 (fun _ _ => id)).kp E4 (fun _ _ => id)) (xs := nbC ky ((fnd ky S.all).getD en0)) (x := .slice (some ⟨H3.next, 0, none⟩) 1 1) (nx := 1) ⟨_, _, rfl⟩
      (by rw [cellsAt_own (Heap.get_alloc_self _ _) (by simp)]; rfl) (by simp [nbC]) (by simp [nbC]) (by omega)
    rw [e5, Ok2_some]
    simp only [bin_add, Ok_some]
    rw [wrap_i64 (by omega)]
    have hle := E1.le
    have hle2 := E2.le
    refine k _ _ ⟨v5, by simp, ?_, fun b hb => ?_, ?_⟩
    · have ht : (tableP S)[i]? = some (ky, (fnd ky S.all).getD en0) := by rw [htp]; simp [hky]
      rw [List.take_add_one, ht]
      simpa [tableC, List.flatMap_append] using o5
    · rcases hob with ⟨a1, -⟩ | ⟨a1, -⟩
      · exact fx b (by rw [← a1]; exact hb)
      · rw [a1] at hb; cases hb; simp; omega
    · exact ((E2.trans E3).trans E4).then k5 fun b hb hs => by have := (fx b hs).2; omega
  · rintro _ H2 ⟨x, rfl, ox, fx, E2⟩
    refine hP _ _ _ ?_
    simp only [bin_lss, Ok_some, Br_dec]
    refine ⟨fun h => absurd h (by omega), fun _ => hQ _ _ ⟨?_, fun b hb => (fx b hb).1, E1.trans E2⟩⟩
    rw [hlen, List.take_of_length_le (by rw [tableP_len]; omega)] at ox
    exact ox

/-- Lost's contract. -/
theorem c17 {fp : Nat → Prop} {c mb : Nat} {S : Ca} (h : CAt ext H fp c mb S) : C (Z ext) 17 [.pointer (some ⟨c, 0, none⟩)] H fun r H' => r = .int .i64 S.lost ∧ H = H' := by
  apply w17_ok rfl
  simp only [w17, eql_24, Option.isNone_some, Ok_some, Br_false, nilCheck_ptr, FA_ptr, Ld1_ptr, rd1_own h.cell, cacheC, getN_zero, getN_succ, Nat.zero_add, and_self]

/-- New's contract. -/
theorem c9 (mac ip : Int) (h0 : 0 ≤ mac ∧ mac < 18446744073709551616) :
    C (Z ext) 9 [.int .u64 mac, .int .u32 ip] H fun r H' => (281474976710655 ≤ mac ∧ r = .tuple #[.pointer none, .int .i64 2] ∧ H = H') ∨ (mac < 281474976710655 ∧ ∃ c mb, r = .tuple #[.pointer (some ⟨c, 0, none⟩), .int .i64 0] ∧
      CAt ext H' (fun b => H.next ≤ b ∧ b < H'.next) c mb ⟨mac, ip, 0, [], 0⟩ ∧ Ext H H') := by
  refine C_all fun Q hQ => ?_
  apply w9_ok rfl
  simp only [w9, bin_geq, Ok_some, Br_dec, AlM_eq, build_64_013, one_int, one_map, Al_eq, cellsOf_agg]
  refine ⟨fun h => hQ _ _ (.inl ⟨h, rfl, rfl⟩), fun h => hQ _ _ (.inr ⟨by omega, _, H.next, rfl, ⟨by simp [cacheC], ⟨[], 0, ?_, trivial, List.nodup_nil, by simp⟩, by simp, by simp; omega, by simp, by simp, by simp; omega, fun b hb => hb.2⟩, (Kp.alloc _ _ _).alloc' _⟩)⟩
  rw [Heap.get_alloc_ne (by simp)]; simp

theorem new_ok {mac ip : Int} (h : 0 ≤ mac ∧ mac < 281474976710655) (hi : 0 ≤ ip ∧ ip < 4294967296) : CaOk ⟨mac, ip, 0, [], 0⟩ := ⟨h, hi, by simp, by simp, by simp, by simp, by simp, by simp⟩

end Ev
end Go.Proofs.Ytglkgmomnbdkoaa
