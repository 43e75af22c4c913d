/- Every body is told in a frame once, or waits, or is lost: for every address and script. No conditions. -/
import Derived.Test.YtglkgmomnbdkoaaRow4
import Derived.Test.YtglkgmomnbdkoaaCnt3
namespace Go.Proofs.Ytglkgmomnbdkoaa
open Go.ChangeShapes Go.WideShapes Go.ChangeAt Go.RowKit Go.Proofs Ev

set_option maxRecDepth 100000 in
theorem arpCounts_lifted (os : Os) (started : os.Started) (H : Type) (enc : TypeId × Value → H) :
    ReturnsInHanded {} Try.checked os 5 .any (Rows.arpCountsSpec.pre6 enc Try.prog Try.f5 Rows.arpCountsRow.domain false) (Rows.arpCountsSpec.post enc Try.prog Try.f5 false true false false) := by
  refine returnsInHanded_of_change (C := Try.checked) own started (by kernel_rfl) Try.func5
    (ChangeSpec.witness6 (enc := enc) (C := Try.checked) false ⟨#[], #[.int .u32 0, .slice none 0 0], []⟩ 8 (by kernel_rfl) (by kernel_rfl) (by kernel_rfl) (by kernel_rfl)) ?_
  intro W base args ds gs before hval hW _ _
  have hW' : DataW.Whole enc Try.prog Try.f5.params.toList Rows.arpCountsSpec.vars false W args.toList ds gs before := hW
  obtain ⟨p, q, hA, -, -, -, -⟩ := id hW'
  rw [Try.params5] at hA
  obtain ⟨v0, v1, d0, d1, p0, p1, rfl, rfl, rfl, t0, t1⟩ := trodAll_two hA
  obtain ⟨n, rfl, hn⟩ := arg22 (hval 0 22 v0 rfl rfl) t0
  obtain ⟨u, sc, hu, hsc, hsl⟩ := arg23 (hval 1 23 v1 rfl rfl) t1
  refine (isTrue_of_C (c5 hn hsc hsl) (.cons (.int _ _) (.cons (absC_ok hu) .nil))).mono ?_
  rintro e W' ⟨rfl, hl⟩
  refine ⟨_, rfl, post_law rfl rfl ?_ (by kernel_rfl) hW' hl⟩
  intro ds hds
  match ds, hds with
  | [_, _], _ => rfl

theorem arpCounts_holds : Rows.ArpCountsSaid :=
  OpenClaim.holds_of_wide 5 Try.f5 rfl rfl rfl rfl rfl rfl rfl ⟨rfl, rfl, rfl, rfl, rfl⟩ rfl rfl rfl rfl rfl (by kernel_rfl) Try.func5 (by kernel_rfl)
    (of_decide_eq_true (by kernel_rfl)) (by unfold Func.isWrapper; first | (rw [if_pos (by decide +kernel)]; kernel_rfl) | (rw [if_neg (by decide +kernel)]; exact ⟨rfl, rfl⟩))
    (fun os started H enc _ => arpCounts_lifted os started H enc)

#print axioms arpCounts_holds

end Go.Proofs.Ytglkgmomnbdkoaa
