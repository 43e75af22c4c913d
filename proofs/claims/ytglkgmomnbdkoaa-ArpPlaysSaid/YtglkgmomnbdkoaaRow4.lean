/- A law's row out of its predicate; addresses and scripts among the arguments. -/
import Derived.Test.YtglkgmomnbdkoaaRow3
namespace Go.Proofs.Ytglkgmomnbdkoaa
open Go.ChangeShapes Go.WideShapes Go.ChangeAt Go.RowKit Go.Proofs Ev

/-- A law that is true by its predicate. -/
theorem isTrue_of_C {f : FuncId} {args : List Value} {args' : Array Value} {W : World} (h : C (Z (extOf W)) f args E0 fun r _ => r = .bool true) (ha : VRs (fun _ => none) args args'.toList) : IsTrue f args' W := by
  obtain ⟨n, v, H', hrun, rfl⟩ := h
  exact isTrue_of_run (callZ (extOf W) n) hrun (extOf_ok _ rfl) ha

theorem u32_rng {n : Int} (h : (Lit.int .u32 n).wf = true) : 0 ≤ n ∧ n < 4294967296 := by
  have := int_rng h
  have e1 : IntKind.min .u32 = 0 := by decide
  have e2 : IntKind.max .u32 = 4294967295 := by decide
  omega

theorem cells_one {v u : Value} (ha : absC v = some u) : v.cells.toList = [v] := by
  rw [← cellsOf_eq]
  cases v with
  | agg cs => cases ha
  | tuple cs => cases ha
  | _ => rfl

theorem seen22 : (Try.prog.underlying 22).any seen = true := by rw [Try.underlying22]; rfl
theorem seen23 : (Try.prog.underlying 23).any seen = true := by rw [Try.underlying23]; rfl

set_option maxRecDepth 100000 in
/-- An address among the arguments. -/
theorem arg22 {Hh : Type} {enc : TypeId × Value → Hh} {W : World} {base : Nat} {hd : Bool} {v : Value} {d : DataW Hh} {ps : List MemPlace} (hv : Value.okWide Try.prog W .any base 22 v) (h : DataW.Trod enc Try.prog W 0 (fun _ => true) hd 22 v d ps) :
    ∃ n, v = .int .u32 n ∧ 0 ≤ n ∧ n < 4294967296 := by
  obtain ⟨u, hu⟩ := value_abs (P := Try.prog) (t := 22) seen22 hv
  obtain ⟨fuel, hf⟩ := h
  rw [cells_one hu] at hf
  obtain ⟨n, hn, -, hw⟩ := DataW.trod_int Try.underlying22 hf
  cases hn
  exact ⟨n, rfl, u32_rng hw⟩

set_option maxRecDepth 100000 in
/-- A script among the arguments. -/
theorem arg23 {Hh : Type} {enc : TypeId × Value → Hh} {W : World} {base : Nat} {hd : Bool} {v : Value} {d : DataW Hh} {ps : List MemPlace} (hv : Value.okWide Try.prog W .any base 23 v) (h : DataW.Trod enc Try.prog W 0 (fun _ => true) hd 23 v d ps) :
    ∃ u ds, absC v = some u ∧ Script W u ds ∧ ds.length ≤ maxLen := by
  obtain ⟨u, hu⟩ := value_abs (P := Try.prog) (t := 23) seen23 hv
  obtain ⟨fuel, hf⟩ := h
  rw [cells_one hu] at hf
  exact trod_script hf

end Go.Proofs.Ytglkgmomnbdkoaa
