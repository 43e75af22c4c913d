/- There are never more than eight neighbours, and four bodies for each; addresses rise: for every address and script. No conditions. -/
import Derived.Test.YtglkgmomnbdkoaaBnd2
namespace Go.Proofs.Ytglkgmomnbdkoaa
open Go.ChangeShapes Go.WideShapes Go.ChangeAt Go.RowKit Go.Proofs Ev

/-- A law that is true by its predicate. -/
theorem isTrue_of_C {f : FuncId} {args : List Value} {args' : Array Value} {W : World} (h : C (Z (extOf W)) f args E0 fun r _ => r = .bool true) (ha : VRs (fun _ => none) args args'.toList) : IsTrue f args' W := by
  obtain ⟨n, v, H', hrun, rfl⟩ := h
  exact isTrue_of_run (callZ (extOf W) n) hrun (extOf_ok _ rfl) ha

theorem u32_rng {n : Int} (h : (Lit.int .u32 n).wf = true) : 0 ≤ n ∧ n < 4294967296 := by
  have := int_rng h
  have e1 : IntKind.min .u32 = 0 := by decide
  have e2 : IntKind.max .u32 = 4294967295 := by decide
  omega

theorem cells_one {v u : Value} (ha : absC v = some u) : v.cells.toList = [v] := by
  rw [← cellsOf_eq]
  cases v with
  | agg cs => cases ha
  | tuple cs => cases ha
  | _ => rfl

theorem seen22 : (Try.prog.underlying 22).any seen = true := by rw [Try.underlying22]; rfl
theorem seen23 : (Try.prog.underlying 23).any seen = true := by rw [Try.underlying23]; rfl

set_option maxRecDepth 100000 in
/-- An address among the arguments. -/
theorem arg22 {Hh : Type} {enc : TypeId × Value → Hh} {W : World} {base : Nat} {hd : Bool} {v : Value} {d : DataW Hh} {ps : List MemPlace} (hv : Value.okWide Try.prog W .any base 22 v) (h : DataW.Trod enc Try.prog W 0 (fun _ => true) hd 22 v d ps) :
    ∃ n, v = .int .u32 n ∧ 0 ≤ n ∧ n < 4294967296 := by
  obtain ⟨u, hu⟩ := value_abs (P := Try.prog) (t := 22) seen22 hv
  obtain ⟨fuel, hf⟩ := h
  rw [cells_one hu] at hf
  obtain ⟨n, hn, -, hw⟩ := DataW.trod_int Try.underlying22 hf
  cases hn
  exact ⟨n, rfl, u32_rng hw⟩

set_option maxRecDepth 100000 in
/-- A script among the arguments. -/
theorem arg23 {Hh : Type} {enc : TypeId × Value → Hh} {W : World} {base : Nat} {hd : Bool} {v : Value} {d : DataW Hh} {ps : List MemPlace} (hv : Value.okWide Try.prog W .any base 23 v) (h : DataW.Trod enc Try.prog W 0 (fun _ => true) hd 23 v d ps) :
    ∃ u ds, absC v = some u ∧ Script W u ds ∧ ds.length ≤ maxLen := by
  obtain ⟨u, hu⟩ := value_abs (P := Try.prog) (t := 23) seen23 hv
  obtain ⟨fuel, hf⟩ := h
  rw [cells_one hu] at hf
  exact trod_script hf

set_option maxRecDepth 100000 in
theorem arpBounds_lifted (os : Os) (started : os.Started) (H : Type) (enc : TypeId × Value → H) :
    ReturnsInHanded {} Try.checked os 3 .any (Rows.arpBoundsSpec.pre6 enc Try.prog Try.f3 Rows.arpBoundsRow.domain false) (Rows.arpBoundsSpec.post enc Try.prog Try.f3 false true false false) := by
  refine returnsInHanded_of_change (C := Try.checked) own started (by kernel_rfl) Try.func3
    (ChangeSpec.witness6 (enc := enc) (C := Try.checked) false ⟨#[], #[.int .u32 0, .slice none 0 0], []⟩ 8 (by kernel_rfl) (by kernel_rfl) (by kernel_rfl) (by kernel_rfl)) ?_
  intro W base args ds gs before hval hW _ _
  have hW' : DataW.Whole enc Try.prog Try.f3.params.toList Rows.arpBoundsSpec.vars false W args.toList ds gs before := hW
  obtain ⟨p, q, hA, -, -, -, -⟩ := id hW'
  rw [Try.params3] at hA
  obtain ⟨v0, v1, d0, d1, p0, p1, rfl, rfl, rfl, t0, t1⟩ := trodAll_two hA
  obtain ⟨n, rfl, hn⟩ := arg22 (hval 0 22 v0 rfl rfl) t0
  obtain ⟨u, sc, hu, hsc, hsl⟩ := arg23 (hval 1 23 v1 rfl rfl) t1
  refine (isTrue_of_C (c3 hn hsc hsl) (.cons (.int _ _) (.cons (absC_ok hu) .nil))).mono ?_
  rintro e W' ⟨rfl, hl⟩
  refine ⟨_, rfl, post_law rfl rfl ?_ (by kernel_rfl) hW' hl⟩
  intro ds hds
  match ds, hds with
  | [_, _], _ => rfl

theorem arpBounds_holds : Rows.ArpBoundsSaid :=
  OpenClaim.holds_of_wide 3 Try.f3 rfl rfl rfl rfl rfl rfl rfl ⟨rfl, rfl, rfl, rfl, rfl⟩ rfl rfl rfl rfl rfl (by kernel_rfl) Try.func3 (by kernel_rfl)
    (of_decide_eq_true (by kernel_rfl)) (by unfold Func.isWrapper; first | (rw [if_pos (by decide +kernel)]; kernel_rfl) | (rw [if_neg (by decide +kernel)]; exact ⟨rfl, rfl⟩))
    (fun os started H enc _ => arpBounds_lifted os started H enc)

#print axioms arpBounds_holds

end Go.Proofs.Ytglkgmomnbdkoaa
