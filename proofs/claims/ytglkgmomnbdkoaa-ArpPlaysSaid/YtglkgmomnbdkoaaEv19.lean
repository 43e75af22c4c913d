/- The tables' facts, out of one check each. -/
import Derived.Test.YtglkgmomnbdkoaaEv18
namespace Go.Proofs.Ytglkgmomnbdkoaa
namespace Ev

/-- The functions that are kept. -/
def pick : List Bool → List Func → List (Option Func)
  | b :: bs, f :: fs => cond b (some f) none :: pick bs fs
  | _, _ => []

def fineFn (fn : Func) : Bool := !(fn.name == "runtime.NumGoroutine") && (match fn.body with
  | some c => okCode (fun _ => true) c
  | none => true)

def fineFns : List (Option Func) → Bool
  | [] => true
  | some fn :: l => fineFn fn && fineFns l
  | none :: l => fineFns l

/-- Types whose zero value is the same everywhere. -/
def plainOnly : Option TI → Option TI
  | some i => cond (i.zero.all plainV) (some i) none
  | none => none

theorem plainOnly_get {x : Option TI} {i : TI} (h : plainOnly x = some i) : x = some i ∧ i.zero.all plainV = true := by
  cases x with
  | none => cases h
  | some y =>
    simp only [plainOnly] at h
    cases hb : y.zero.all plainV with
    | false => rw [hb] at h; cases h
    | true => rw [hb] at h; cases h; exact ⟨rfl, hb⟩

theorem pick_get : ∀ (bs : List Bool) (fs : List Func) (i : Nat) (f : Func), (pick bs fs)[i]? = some (some f) → fs[i]? = some f
  | [], _, i, f, h => by simp [pick] at h
  | _ :: _, [], i, f, h => by simp [pick] at h
  | b :: bs, g :: fs, i, f, h => by
    cases i with
    | zero => cases b <;> simp_all [pick]
    | succ i => exact pick_get bs fs i f (by simpa [pick] using h)

theorem fineFns_get : ∀ (l : List (Option Func)) (i : Nat) (f : Func), fineFns l = true → l[i]? = some (some f) → fineFn f = true
  | [], i, f, _, h => by simp at h
  | x :: l, i, f, hf, h => by
    cases i with
    | zero => simp at h; subst h; simp [fineFns] at hf; exact hf.1
    | succ i =>
      refine fineFns_get l i f ?_ (by simpa using h)
      cases x <;> simp [fineFns] at hf
      · exact hf
      · exact hf.2

/-- All that is checked of a program's tables. -/
structure Tabs (P : Program) (tt : T TI) (ct : T Func) : Prop where
  tt : ∀ t i, tt.get t = some i → tinfo P t = some i ∧ i.zero.all plainV = true
  ct : ∀ f fn, ct.get f = some fn → P.funcs[f]? = some fn ∧ fineFn fn = true
  mixed : P.follows .mixedOrders = true

theorem tabs_of {P : Program} {tt : T TI} {ct : T Func} {tl : List (Option TI)} {ks : List Bool} (n : Nat) (h1 : tt = T.ofListO 0 tl .leaf) (h2 : ((List.range n).map fun t => plainOnly (tinfo P t)) = tl)
    (h4 : ct = T.ofListO 0 (pick ks P.funcs.toList) .leaf) (h5 : fineFns (pick ks P.funcs.toList) = true) (h6 : P.follows .mixedOrders = true) : Tabs P tt ct := by
  refine ⟨?_, ?_, h6⟩
  · intro t i h
    rw [h1] at h
    rcases T.get_ofListO _ _ _ _ _ h with ⟨h, -⟩ | h
    · rw [Nat.sub_zero] at h
      rw [← h2, List.getElem?_map] at h
      by_cases ht : t < n
      · rw [List.getElem?_range ht] at h
        exact plainOnly_get (by simpa using h)
      · rw [List.getElem?_eq_none (by simpa using ht)] at h; simp at h
    · simp at h
  · intro f fn h
    rw [h4] at h
    rcases T.get_ofListO _ _ _ _ _ h with ⟨h, -⟩ | h
    · rw [Nat.sub_zero] at h
      exact ⟨by simpa using pick_get _ _ _ _ h, fineFns_get _ _ _ h5 h⟩
    · simp at h

section
variable {P : Program} {X : Ctx}

theorem Tabs.tied (h : Tabs P X.tt X.ct) : Tied P X := by
  refine ⟨fun t i hi => (h.tt t i hi).1, fun f fn hf => ⟨(h.ct f fn hf).1, ?_⟩, h.mixed⟩
  have := (h.ct f fn hf).2
  simp only [fineFn, Bool.and_eq_true, Bool.not_eq_true'] at this
  exact this.1

theorem Tabs.zero (h : Tabs P X.tt X.ct) : ZeroOk X := ⟨fun t i hi => (h.tt t i hi).2⟩

theorem Tabs.codes (h : Tabs P X.tt X.ct) : CodesOk X (fun _ => true) := by
  intro f fn c _ hf hc
  have := (h.ct f fn hf).2
  simp only [fineFn, hc, Bool.and_eq_true] at this
  exact this.2

/-- A call of the evaluator's is the program's. -/
theorem Tabs.call (h : Tabs P X.tt X.ct) (hspec : SpecOk P X) (n : Nat) : CallOk P X (callN X n) := (sound h.tied h.zero hspec h.codes n).2

theorem spec_none : SpecOk P { X with spec := fun _ => none } := fun f s h => by cases h

end
end Ev
end Go.Proofs.Ytglkgmomnbdkoaa
