/- EVERY BODY IS TOLD IN A FRAME ONCE, OR WAITS, OR IS LOST: the walk. No conditions. -/
import Derived.Test.YtglkgmomnbdkoaaCnt1
import Derived.Test.YtglkgmomnbdkoaaNum
import Derived.Test.YtglkgmomnbdkoaaBnd2
namespace Go.Proofs.Ytglkgmomnbdkoaa
open Go.ChangeShapes Go.WideShapes Go.ChangeAt Go.RowKit Go.Proofs Ev
namespace Ev
variable {ext : Nat → Nat → Option Value} {W : World} {H : Heap}

theorem Bodies.byt {fp : Nat → Prop} : ∀ {vs : List Value} {bs : List (List Int)}, Bodies ext H fp vs bs → ∀ b ∈ bs, Byt b
  | [], [], _, b, hb => by cases hb
  | v :: vs, c :: bs, h, b, hb => by
    rcases List.mem_cons.1 hb with rfl | hb
    · exact h.1.1.byt
    · exact Bodies.byt h.2 b hb
  | [], _ :: _, h, _, _ => h.elim
  | _ :: _, [], h, _, _ => h.elim

theorem EAt.byt {fp : Nat → Prop} : ∀ {ms : List MapEntry} {xs : List (Int × En)}, EAt ext H fp ms xs → ∀ a ∈ xs, ∀ b ∈ a.2.wait, Byt b
  | [], [], _, a, ha, _, _ => by cases ha
  | m :: ms, x :: xs, h, a, ha, b, hb => by
    rcases List.mem_cons.1 ha with rfl | ha
    · obtain ⟨⟨-, wv, -, hw⟩, -⟩ := h
      obtain ⟨vs, p, c, -, -, hB⟩ := hw.ex
      exact hB.byt b hb
    · exact EAt.byt h.2 a ha b hb
  | [], _ :: _, h, _, _, _, _ => h.elim
  | _ :: _, [], h, _, _, _, _ => h.elim

theorem CAt.wb {fp : Nat → Prop} {c mb : Nat} {S : Ca} (h : CAt ext H fp c mb S) : WB S := by
  obtain ⟨ms, clock, -, h2, -⟩ := h.map
  exact h2.byt

theorem FrL.get {H0 : Heap} {fp : Nat → Prop} {o : Option Nat} : ∀ {vs : List Value} {fs : List (List Int)}, FrL H0 H fp o vs fs → ∀ {i : Nat} {f : List Int}, fs[i]? = some f → ∃ v, vs[i]? = some v ∧ Fr H0 H v f
  | [], [], _, i, f, h => by simp at h
  | v :: vs, g :: fs, h, 0, f, hf => by simp at hf; subst hf; exact ⟨v, rfl, h.1.1⟩
  | v :: vs, g :: fs, h, i + 1, f, hf => by simpa using FrL.get h.2 (i := i) (by simpa using hf)
  | [], _ :: _, h, _, _, _ => h.elim
  | _ :: _, [], h, _, _, _ => h.elim

theorem FsOk.drop {mac n : Int} {fs : List (List Int)} {i : Nat} {f : List Int} (h : FsOk mac (fs.drop i) n) (hf : fs[i]? = some f) : ∃ b, IsF mac f b ∧ FsOk mac (fs.drop (i + 1)) (n - (if b = true then 1 else 0)) := by
  obtain ⟨hi, he⟩ := List.getElem?_eq_some_iff.1 hf
  rw [List.drop_eq_getElem_cons hi, he] at h
  obtain ⟨b, k, h1, h2, rfl⟩ := h
  exact ⟨b, h1, by rw [show k + (if b = true then 1 else 0) - (if b = true then 1 else 0) = k by omega]; exact h2⟩

/-- How many of frames carry a body. -/
theorem c16 {H0 : Heap} {fp : Nat → Prop} {fv : Value} {fs : List (List Int)} {mac n : Int} (hf : Frs ext H0 H fp fv fs) (hn : FsOk mac fs n) (hm : 0 ≤ mac ∧ mac < 281474976710656) (hl : fs.length ≤ 1000) :
    C (Z ext) 16 [fv, .int .u64 mac] H fun r H' => r = .tuple #[.int .i64 n, .bool true] ∧ Ext H H' := by
  refine C_all fun Q hQ => ?_
  obtain ⟨vs, p, c, rfl, hc, hL⟩ := hf.ex
  apply w16_ok rfl
  simp only [w16]
  intro P hP
  refine loop_up fs.length (fun i vs' H' => ∃ m, vs' = [.int .i64 m, .int .i64 i] ∧ FsOk mac (fs.drop i) (n - m) ∧ (0 ≤ m ∧ m ≤ i) ∧ Ext H H') ?_ ?_ (Nat.zero_le _) ⟨0, rfl, by simpa using hn, by omega, .refl _ _⟩
  · rintro i _ H1 hi ⟨m, rfl, hFm, hmr, E1⟩ k
    refine hP _ _ _ ?_
    obtain ⟨f, hfi⟩ : ∃ f, fs[i]? = some f := ⟨fs[i], List.getElem?_eq_getElem hi⟩
    obtain ⟨b, hib, hstep⟩ := hFm.drop hfi
    obtain ⟨v, hv, fb, hve, hb1, hb2, hb3⟩ := hL.get hfi
    subst hve
    obtain ⟨to, kind, bs, rfl, ht, hk, hB, hbl, hbk⟩ := hib.ex
    cases p with
    | none => have := (cellsAt_nil hc).1; omega
    | some pa =>
      have hc1 := cellsAt_kp E1 hc (fun b hb => (hf.own b hb).1.2) (fun _ _ => id)
      have hrd := rd1_cellsAt hc1 hi
      rw [hv] at hrd
      obtain ⟨pb, po, ps⟩ := pa
      simp only at hrd
      have hb31 := (E1.get' hb2).trans hb3
      have hle1 := E1.le
      simp only [len_34, Ok2_some, bin_lss, Ok_some, Br_dec]
      refine ⟨fun _ => ?_, fun h => absurd (by omega) h⟩
      simp only [IA_slice]
      refine ⟨by omega, ?_⟩
      have e1 : po + (i : Int).toNat * 1 = po + i := by omega
      simp only [e1, Ld1_ptr, hrd, Ok_some]
      refine C_mono (c31 (by omega) hb31 ht hm hk hB hbl) ?_
      rintro _ H2 ⟨bv, rfl, hbv, E2⟩
      obtain ⟨pv, cv, hbe⟩ := hbv.shape
      simp only [extract_mk, getN_zero, getN_succ, Ok_some, Al_eq]
      refine new_st rfl (by simp) (by simp [hbe]) ?_
      intro H3 n3 g3 E3
      simp only [cellsOf_agg] at g3
      have E13 := (E1.trans E2).trans E3
      simp only [bin_neq, Ok_some, decide_true, Bool.not_true, Br_false, FA_ptr, Ld1_ptr, Nat.zero_add, rd1_own g3, getN_zero, getN_succ, bin_eql, Br_dec, bin_add]
      have hinc : wrapF .i64 ((i : Int) + 1) = ((i + 1 : Nat) : Int) := by rw [wrap_i64 (by omega)]; simp
      rw [hinc, wrap_i64 (by omega)]
      refine ⟨fun h48 => k _ _ ⟨m + 1, rfl, ?_, by omega, E13⟩, fun h48 => k _ _ ⟨m, rfl, ?_, by omega, E13⟩⟩
      · rw [hbk, decide_eq_true h48] at hstep
        rw [show n - (m + 1) = n - m - (if true = true then 1 else 0) by simp; omega]
        exact hstep
      · rw [hbk, decide_eq_false h48] at hstep
        simpa using hstep
  · rintro _ H1 ⟨m, rfl, hFm, hmr, E1⟩
    refine hP _ _ _ ?_
    simp only [len_34, Ok2_some, bin_lss, Ok_some, Br_dec]
    refine ⟨fun h => absurd h (by omega), fun _ => ?_⟩
    rw [List.drop_length] at hFm
    simp only [FsOk] at hFm
    have : m = n := by omega
    subst this
    exact hQ _ _ ⟨rfl, E1⟩

end Ev
end Go.Proofs.Ytglkgmomnbdkoaa
