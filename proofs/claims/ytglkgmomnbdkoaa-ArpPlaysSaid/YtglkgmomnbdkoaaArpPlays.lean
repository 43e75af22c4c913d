/- A cache asks, learns, answers and forgets just as the document says: for every card, address and script. No conditions. -/
import Derived.Test.YtglkgmomnbdkoaaRow5
import Derived.Test.YtglkgmomnbdkoaaRfB
namespace Go.Proofs.Ytglkgmomnbdkoaa
open Go.ChangeShapes Go.WideShapes Go.ChangeAt Go.RowKit Go.Proofs Ev

set_option maxRecDepth 100000 in
theorem arpPlays_lifted (os : Os) (started : os.Started) (H : Type) (enc : TypeId × Value → H) :
    ReturnsInHanded {} Try.checked os 4 .any (Rows.arpPlaysSpec.pre6 enc Try.prog Try.f4 Rows.arpPlaysRow.domain false) (Rows.arpPlaysSpec.post enc Try.prog Try.f4 false true false false) := by
  refine returnsInHanded_of_change_sized (C := Try.checked) own started (by kernel_rfl) Try.func4
    (ChangeSpec.witness6 (enc := enc) (C := Try.checked) false ⟨#[], #[.int .u64 0, .int .u32 0, .slice none 0 0], []⟩ 8 (by kernel_rfl) (by kernel_rfl) (by kernel_rfl) (by kernel_rfl)) ?_
  intro W base args ds gs before hval hW _ hwt _
  have hW' : DataW.Whole enc Try.prog Try.f4.params.toList Rows.arpPlaysSpec.vars false W args.toList ds gs before := hW
  obtain ⟨p, q, hA, -, -, -, -⟩ := id hW'
  rw [Try.params4] at hA
  obtain ⟨v0, v1, v2, d0, d1, d2, p0, p1, p2, rfl, rfl, rfl, t0, t1, t2⟩ := trodAll_three hA
  obtain ⟨n, rfl, hn⟩ := arg28 (hval 0 28 v0 rfl rfl) t0
  obtain ⟨m, rfl, hm⟩ := arg22 (hval 1 22 v1 rfl rfl) t1
  have hwt2 : ∀ n ∈ DataW.weights Try.prog 23 d2, n ≤ reachBytes := fun n hn => by
    have := List.all_eq_true.1 hwt n (DataW.weights_mem_each (j := 2) (t := 23) rfl rfl n hn)
    simpa using this
  obtain ⟨u, sc, hu, hsc, hsl, hsb⟩ := arg23w (hval 2 23 v2 rfl rfl) t2 hwt2
  refine (isTrue_of_C (c4 hn hm hsc hsl hsb) (.cons (.int _ _) (.cons (.int _ _) (.cons (absC_ok hu) .nil)))).mono ?_
  rintro e W' ⟨rfl, hl⟩
  refine ⟨_, rfl, post_law rfl rfl ?_ (by kernel_rfl) hW' hl⟩
  intro ds hds
  match ds, hds with
  | [_, _, _], _ => rfl

theorem arpPlays_holds : Rows.ArpPlaysSaid :=
  OpenClaim.holds_of_wide 4 Try.f4 rfl rfl rfl rfl rfl rfl rfl ⟨rfl, rfl, rfl, rfl, rfl⟩ rfl rfl rfl rfl rfl (by kernel_rfl) Try.func4 (by kernel_rfl)
    (of_decide_eq_true (by kernel_rfl)) (by unfold Func.isWrapper; first | (rw [if_pos (by decide +kernel)]; kernel_rfl) | (rw [if_neg (by decide +kernel)]; exact ⟨rfl, rfl⟩))
    (fun os started H enc _ => arpPlays_lifted os started H enc)

#print axioms arpPlays_holds

end Go.Proofs.Ytglkgmomnbdkoaa
