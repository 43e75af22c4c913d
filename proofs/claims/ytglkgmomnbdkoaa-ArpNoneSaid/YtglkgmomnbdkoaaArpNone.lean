/- A nil cache answers that it is nil, whatever it is asked; and what must be whatever is asked. No conditions. -/
import Derived.Test.YtglkgmomnbdkoaaRow2
namespace Go.Proofs.Ytglkgmomnbdkoaa
open Go.ChangeShapes Go.WideShapes Go.ChangeAt Go.RowKit Go.Proofs Ev

def specA : FuncId → Option (List Value → Heap → Option (Value × Heap)) := fun f => cond (Nat.beq f 40) (some sortedS) none
noncomputable def XA (ext : Nat → Nat → Option Value) : Ctx := Tab.ctx ext specA

theorem specA_ok (ext : Nat → Nat → Option Value) : SpecOk Try.prog (XA ext) := by
  intro f s h
  change specA f = some s at h
  unfold specA at h
  cases hf : Nat.beq f 40 with
  | false => rw [hf] at h; cases h
  | true =>
    rw [hf] at h
    cases h
    have := Nat.eq_of_beq_eq_true hf
    subst this
    exact sortedS_ok _

theorem callA (ext : Nat → Nat → Option Value) (n : Nat) : CallOk Try.prog (XA ext) (callN (XA ext) n) := Tabs.call (X := XA ext) Tab.tabs (specA_ok ext) n

def res1 (x : Option (Value × Heap)) : Option Value := match x with
  | some (v, _) => some v
  | none => none

theorem res1_eq {x : Option (Value × Heap)} {v : Value} (h : res1 x = some v) : ∃ H', x = some (v, H') := by
  cases x with
  | none => cases h
  | some p => obtain ⟨u, H'⟩ := p; simp only [res1] at h; cases h; exact ⟨H', rfl⟩

set_option maxRecDepth 100000 in
theorem arpNone_run : (fun (ext : Nat → Nat → Option Value) (b x1 x2 x3 x4 x5 n : Value) => res1 (callN (XA ext) 100000 8 [b, .agg #[x1, x2, x3, x4, x5], n] E0)) = fun _ _ _ _ _ _ _ _ => some (.bool true) := by kernel_rfl

theorem cells31 : Try.prog.cellTypes Try.prog.depth 31 = some [3, 28, 22, 28, 22] := by kernel_rfl
theorem five31 : Try.prog.cellsOf 31 = 5 := by kernel_rfl

theorem seen3 : (Try.prog.underlying 3).any seen = true := by rw [Try.underlying3]; rfl
theorem seen22 : (Try.prog.underlying 22).any seen = true := by rw [Try.underlying22]; rfl
theorem seen28 : (Try.prog.underlying 28).any seen = true := by rw [Try.underlying28]; rfl
theorem seen29 : (Try.prog.underlying 29).any seen = true := by rw [Try.underlying29]; rfl
theorem seen31 : ∀ u ∈ [3, 28, 22, 28, 22], (Try.prog.underlying u).any seen = true := by
  intro u hu
  rcases List.mem_cons.1 hu with rfl | hu
  · exact seen3
  rcases List.mem_cons.1 hu with rfl | hu
  · exact seen28
  rcases List.mem_cons.1 hu with rfl | hu
  · exact seen22
  rcases List.mem_cons.1 hu with rfl | hu
  · exact seen28
  rcases List.mem_cons.1 hu with rfl | hu
  · exact seen22
  cases hu

set_option maxRecDepth 100000 in
theorem arpNone_true (W : World) (base : Nat) (v0 v1 v2 : Value) (h0 : Value.okWide Try.prog W .any base 29 v0) (h1 : Value.okWide Try.prog W .any base 31 v1) (h2 : Value.okWide Try.prog W .any base 3 v2) : IsTrue 8 #[v0, v1, v2] W := by
  obtain ⟨u0, a0⟩ := value_abs (P := Try.prog) (t := 29) seen29 h0
  obtain ⟨u2, a2⟩ := value_abs (P := Try.prog) (t := 3) seen3 h2
  obtain ⟨cs, k, rfl, -, hk, hl⟩ := agg_abs (P := Try.prog) (t := 31) Try.underlying31 cells31 seen31 h1
  rw [five31] at hl
  obtain ⟨x1, x2, x3, x4, x5, rfl⟩ : ∃ x1 x2 x3 x4 x5, k = [x1, x2, x3, x4, x5] := by
    match k, hl with
    | [x1, x2, x3, x4, x5], _ => exact ⟨_, _, _, _, _, rfl⟩
  have hrun := congrFun (congrFun (congrFun (congrFun (congrFun (congrFun (congrFun (congrFun arpNone_run (extOf W)) u0) x1) x2) x3) x4) x5) u2
  obtain ⟨H', hH⟩ := res1_eq hrun
  exact isTrue_of_run (callA (extOf W) 100000) hH (extOf_ok _ rfl) (.cons (absC_ok a0) (.cons (.agg (absL_ok hk)) (.cons (absC_ok a2) .nil)))

set_option maxRecDepth 100000 in
theorem arpNone_lifted (os : Os) (started : os.Started) (H : Type) (enc : TypeId × Value → H) :
    ReturnsInHanded {} Try.checked os 8 .any (Rows.arpNoneSpec.pre6 enc Try.prog Try.f8 Rows.arpNoneRow.domain false) (Rows.arpNoneSpec.post enc Try.prog Try.f8 false true false false) := by
  refine returnsInHanded_of_change (C := Try.checked) own started (by kernel_rfl) Try.func8
    (ChangeSpec.witness6 (enc := enc) (C := Try.checked) false ⟨#[], #[.slice none 0 0, .agg #[.int .i64 0, .int .u64 0, .int .u32 0, .int .u64 0, .int .u32 0], .int .i64 0], []⟩ 8 (by kernel_rfl) (by kernel_rfl) (by kernel_rfl) (by kernel_rfl)) ?_
  intro W base args ds gs before hval hW _ _
  have hW' : DataW.Whole enc Try.prog Try.f8.params.toList Rows.arpNoneSpec.vars false W args.toList ds gs before := hW
  obtain ⟨p, q, hA, -, -, -, -⟩ := id hW'
  rw [Try.params8] at hA
  obtain ⟨v0, v1, v2, d0, d1, d2, p0, p1, p2, rfl, rfl, rfl, -, -, -⟩ := trodAll_three hA
  refine (arpNone_true W base v0 v1 v2 (hval 0 29 v0 rfl rfl) (hval 1 31 v1 rfl rfl) (hval 2 3 v2 rfl rfl)).mono ?_
  rintro e W' ⟨rfl, hl⟩
  refine ⟨_, rfl, post_law rfl rfl ?_ (by kernel_rfl) hW' hl⟩
  intro ds hds
  match ds, hds with
  | [_, _, _], _ => rfl

theorem arpNone_holds : Rows.ArpNoneSaid :=
  OpenClaim.holds_of_wide 8 Try.f8 rfl rfl rfl rfl rfl rfl rfl ⟨rfl, rfl, rfl, rfl, rfl⟩ rfl rfl rfl rfl rfl (by kernel_rfl) Try.func8 (by kernel_rfl)
    (of_decide_eq_true (by kernel_rfl)) (by unfold Func.isWrapper; first | (rw [if_pos (by decide +kernel)]; kernel_rfl) | (rw [if_neg (by decide +kernel)]; exact ⟨rfl, rfl⟩))
    (fun os started H enc _ => arpNone_lifted os started H enc)

#print axioms arpNone_holds

end Go.Proofs.Ytglkgmomnbdkoaa
