/- A neighbour that never answers is asked three times, and then forgotten, with what waits: for every address, bodies, and steps of time. No conditions. -/
import Derived.Test.YtglkgmomnbdkoaaRow4
import Derived.Test.YtglkgmomnbdkoaaAsk1
namespace Go.Proofs.Ytglkgmomnbdkoaa
open Go.ChangeShapes Go.WideShapes Go.ChangeAt Go.RowKit Go.Proofs Ev

theorem seen5 : (Try.prog.underlying 5).any seen = true := by rw [Try.underlying5]; rfl
theorem seen29' : (Try.prog.underlying 29).any seen = true := by rw [Try.underlying29]; rfl

set_option maxRecDepth 100000 in
/-- A byte among the arguments. -/
theorem arg5 {Hh : Type} {enc : TypeId × Value → Hh} {W : World} {base : Nat} {hd : Bool} {v : Value} {d : DataW Hh} {ps : List MemPlace} (hv : Value.okWide Try.prog W .any base 5 v) (h : DataW.Trod enc Try.prog W 0 (fun _ => true) hd 5 v d ps) :
    ∃ n, v = .int .u8 n ∧ 0 ≤ n ∧ n < 256 := by
  obtain ⟨u, hu⟩ := value_abs (P := Try.prog) (t := 5) seen5 hv
  obtain ⟨fuel, hf⟩ := h
  rw [cells_one hu] at hf
  obtain ⟨n, hn, -, hw⟩ := DataW.trod_int Try.underlying5 hf
  cases hn
  have := int_rng hw
  have e1 : IntKind.min .u8 = 0 := by decide
  have e2 : IntKind.max .u8 = 255 := by decide
  exact ⟨n, rfl, by omega, by omega⟩

set_option maxRecDepth 100000 in
/-- Bytes among the arguments. -/
theorem arg29 {Hh : Type} {enc : TypeId × Value → Hh} {W : World} {base : Nat} {hd : Bool} {v : Value} {d : DataW Hh} {ps : List MemPlace} (hv : Value.okWide Try.prog W .any base 29 v) (h : DataW.Trod enc Try.prog W 0 (fun _ => true) hd 29 v d ps) :
    ∃ u bs, absC v = some u ∧ BX W u bs ∧ bs.length ≤ maxLen := by
  obtain ⟨u, hu⟩ := value_abs (P := Try.prog) (t := 29) seen29' hv
  obtain ⟨fuel, hf⟩ := h
  rw [cells_one hu] at hf
  obtain ⟨u', bs, h1, h2, -, h4⟩ := trod_bytes Try.underlying29 Try.underlying5 one5 hf
  exact ⟨u', bs, h1, h2, h4⟩

set_option maxRecDepth 100000 in
theorem arpAsks_lifted (os : Os) (started : os.Started) (H : Type) (enc : TypeId × Value → H) :
    ReturnsInHanded {} Try.checked os 6 .any (Rows.arpAsksSpec.pre6 enc Try.prog Try.f6 Rows.arpAsksRow.domain false) (Rows.arpAsksSpec.post enc Try.prog Try.f6 false true false false) := by
  refine returnsInHanded_of_change (C := Try.checked) own started (by kernel_rfl) Try.func6
    (ChangeSpec.witness6 (enc := enc) (C := Try.checked) false ⟨#[], #[.int .u32 0, .int .u8 0, .slice none 0 0], []⟩ 8 (by kernel_rfl) (by kernel_rfl) (by kernel_rfl) (by kernel_rfl)) ?_
  intro W base args ds gs before hval hW _ _
  have hW' : DataW.Whole enc Try.prog Try.f6.params.toList Rows.arpAsksSpec.vars false W args.toList ds gs before := hW
  obtain ⟨p, q, hA, -, -, -, -⟩ := id hW'
  rw [Try.params6] at hA
  obtain ⟨v0, v1, v2, d0, d1, d2, p0, p1, p2, rfl, rfl, rfl, t0, t1, t2⟩ := trodAll_three hA
  obtain ⟨n, rfl, hn⟩ := arg22 (hval 0 22 v0 rfl rfl) t0
  obtain ⟨m, rfl, hm⟩ := arg5 (hval 1 5 v1 rfl rfl) t1
  obtain ⟨u, st, hu, hbx, hsl⟩ := arg29 (hval 2 29 v2 rfl rfl) t2
  refine (isTrue_of_C (c6 hn hm hbx hsl) (.cons (.int _ _) (.cons (.int _ _) (.cons (absC_ok hu) .nil)))).mono ?_
  rintro e W' ⟨rfl, hl⟩
  refine ⟨_, rfl, post_law rfl rfl ?_ (by kernel_rfl) hW' hl⟩
  intro ds hds
  match ds, hds with
  | [_, _, _], _ => rfl

theorem arpAsks_holds : Rows.ArpAsksSaid :=
  OpenClaim.holds_of_wide 6 Try.f6 rfl rfl rfl rfl rfl rfl rfl ⟨rfl, rfl, rfl, rfl, rfl⟩ rfl rfl rfl rfl rfl (by kernel_rfl) Try.func6 (by kernel_rfl)
    (of_decide_eq_true (by kernel_rfl)) (by unfold Func.isWrapper; first | (rw [if_pos (by decide +kernel)]; kernel_rfl) | (rw [if_neg (by decide +kernel)]; exact ⟨rfl, rfl⟩))
    (fun os started H enc _ => arpAsks_lifted os started H enc)

#print axioms arpAsks_holds

end Go.Proofs.Ytglkgmomnbdkoaa
