/- From a law's contract (it returns true; all that lay lies as it lay) to its row. -/
import Derived.Test.YtglkgmomnbdkoaaRows
import Derived.Test.YtglkgmomnbdkoaaSrt7
import Derived.ProofKit
namespace Go.Proofs.Ytglkgmomnbdkoaa
open Go.ChangeShapes Go.WideShapes Go.ChangeAt Go.RowKit Go.Proofs Ev

theorem own : ownKnob Try.prog.godebug = none := by kernel_rfl
theorem laidOut : laidOutB Try.prog = true := by kernel_rfl

theorem Lies.below {w w' : World} (h : Lies w w') : Go.RowKit.Below w.heap.size w w' := ⟨h.os, h.tape, h.out, h.size, h.old⟩

section
variable {H : Type} {enc : TypeId × Value → H}

theorem all_stays {P : Program} (hP : laidOutB P = true) {W W' : World} (hl : Lies W W') : ∀ {ts : List TypeId} {vs : List Value} {ds : List (DataW H)} {ps : List MemPlace},
    DataW.TrodAll enc P W 0 (fun _ => true) true ts vs ds ps → (∀ x ∈ ps, x.block < W.heap.size) → (∀ t ∈ ts, P.readableRec t = true ∧ t < P.types.size) →
    DataW.TrodAll enc P W' 0 (fun b => decide (b < W.heap.size)) true ts vs ds ps
  | [], [], [], _, h, _, _ => h
  | t :: ts, v :: vs, d :: ds, ps, ⟨p, q, h1, h2, e⟩, hlt, hr => by
    subst e
    exact ⟨p, q, Go.RowKit.Below.trod hP (hr t List.mem_cons_self).1 (hr t List.mem_cons_self).2 h1 hl.below (fun x hx => hlt x (List.mem_append_left _ hx)),
      all_stays hP hl h2 (fun x hx => hlt x (List.mem_append_right _ hx)) (fun t' ht => hr t' (List.mem_cons_of_mem _ ht)), rfl⟩
  | [], [], _ :: _, _, h, _, _ => by cases h
  | [], _ :: _, _, _, h, _, _ => by cases h
  | _ :: _, [], _, _, h, _, _ => by cases h
  | _ :: _, _ :: _, [], _, h, _, _ => by cases h

theorem trodAll_length {P : Program} {W : World} {base : Nat} {sp : Nat → Bool} {hd : Bool} : ∀ {ts : List TypeId} {vs : List Value} {ds : List (DataW H)} {ps : List MemPlace}, DataW.TrodAll enc P W base sp hd ts vs ds ps → ds.length = ts.length
  | [], [], [], _, _ => rfl
  | t :: ts, v :: vs, d :: ds, ps, ⟨p, q, h1, h2, e⟩ => by simp [trodAll_length h2]
  | [], [], _ :: _, _, h => by cases h
  | [], _ :: _, _, _, h => by cases h
  | _ :: _, [], _, _, h => by cases h
  | _ :: _, _ :: _, [], _, h => by cases h

/-- Which types may be read. -/
def readT (P : Program) (ts : List TypeId) : Bool := ts.all fun t => P.readableRec t && Nat.blt t P.types.size

theorem readT_ok {P : Program} {ts : List TypeId} (h : readT P ts = true) : ∀ t ∈ ts, P.readableRec t = true ∧ t < P.types.size := by
  intro t ht
  have := List.all_eq_true.1 h t ht
  rw [Bool.and_eq_true] at this
  exact ⟨this.1, Nat.le_of_ble_eq_true this.2⟩

theorem shutB {W : World} {base : Nat} {sp : Nat → Bool} {hd : Bool} (b : Bool) : DataW.Trod enc Try.prog W base sp hd 4 (.bool b) (.lit (.bool b)) [] := ⟨1, by simp [DataW.trod, Value.cells, Try.underlying4]⟩

theorem post_law {f : Func} {s : ChangeSpec} {W W' : World} {args : Array Value} {ds gs : List (DataW H)} {before : List MemPlace} {apart fresh handsOn : Bool} (hvars : s.vars = []) (hrt : f.resultTypes = #[4])
    (hfn : ∀ ds : List (DataW H), ds.length = f.params.toList.length → s.fn H ds = { results := [.lit (.bool true)], args := ds })
    (hread : readT Try.prog f.params.toList = true)
    (hW : DataW.Whole enc Try.prog f.params.toList s.vars apart W args.toList ds gs before) (hl : Lies W W') : s.post enc Try.prog f apart fresh handsOn false W args (.bool true) W' := by
  have hW0 := hW
  obtain ⟨p, q, hA, hV, e, -, -⟩ := hW0
  rw [hvars] at hV
  obtain ⟨rfl, rfl⟩ := trodVars_none hV
  have hs := hfn ds (trodAll_length hA)
  refine ⟨ds, [], before, [], p, [], hW, ?_, ?_, ?_, ?_, fun h => by cases h⟩
  · rw [List.append_nil, hs, hrt]
    exact trodAll_mk1 (shutB true)
  · rw [List.append_nil, hs]
    exact all_stays laidOut hl hA (fun x hx => hW.lt x (by rw [e]; exact List.mem_append_left _ hx)) (readT_ok hread)
  · rw [List.append_nil, hs, hvars]
    rfl
  · refine ⟨hl.os, hl.out, fun i hi => ?_⟩
    rw [hl.old i hi]
    exact (World.keptBut_refl W fun x => x ∈ before ∧ (x ∈ [] ∨ x ∈ p ∨ x ∈ [])).2.2 i hi
end

/-- A law that returns true and leaves all as it lay. -/
def IsTrue (f : FuncId) (args : Array Value) (W : World) : Prop := Calls Try.prog f args W fun e W' => e = .returned (.bool true) ∧ Lies W W'

theorem isTrue_of_run {f : FuncId} {ext : Nat → Nat → Option Value} {spec : FuncId → Option (List Value → Heap → Option (Value × Heap))} {args : List Value} {H' : Heap} {args' : Array Value} {W : World} {call : Ev.Call}
    (hc : CallOk Try.prog (Tab.ctx ext spec) call) (h : call f args E0 = some (.bool true, H')) (hext : ExtOk (Tab.ctx ext spec) (whole W)) (ha : VRs (fun _ => none) args args'.toList) : IsTrue f args' W := by
  obtain ⟨-, k⟩ := hc _ _ _ _ _ h
  refine (k (whole W) (fun _ => none) W args' hext (rel_whole W) (fun _ _ _ => rfl) ha).2.mono ?_
  rintro e w' ⟨m', v', rfl, -, hv, hr⟩
  cases hv
  exact ⟨rfl, hr.lies⟩

end Go.Proofs.Ytglkgmomnbdkoaa
