/- Arguments as the evaluator sees them: what they point to lies outside. -/
import Derived.Test.YtglkgmomnbdkoaaRow1
namespace Go.Proofs.Ytglkgmomnbdkoaa
open Go.ChangeShapes Go.WideShapes Go.ChangeAt Go.RowKit Go.Proofs Ev

/-- A cell from outside. -/
def absC : Value → Option Value
  | .bool b => some (.bool b)
  | .int k n => some (.int k n)
  | .string s => some (.string s)
  | .pointer none => some (.pointer none)
  | .pointer (some ⟨b, o, none⟩) => some (.pointer (some ⟨b, o, some 0⟩))
  | .slice none l c => some (.slice none l c)
  | .slice (some ⟨b, o, none⟩) l c => cond (Nat.blt c unk) (some (.slice (some ⟨b, o, some 0⟩) l c)) none
  | .slice (some ⟨_, _, some _⟩) 0 0 => some (.slice (some ⟨0, 0, some 0⟩) 0 0)
  | _ => none

theorem absC_ok {m : Mu} {v u : Value} (h : absC v = some u) : VR m u v := by
  unfold absC at h
  split at h
  · cases h; exact .bool _
  · cases h; exact .int _ _
  · cases h; exact .string _
  · cases h; exact .ptrNil
  · cases h; exact .ptrX _ _
  · cases h; exact .slNil _ _
  · rename_i b o l c
    cases hb : Nat.blt c unk with
    | false => rw [hb] at h; cases h
    | true => rw [hb] at h; cases h; exact .slX _ _ _ _ (Nat.le_of_ble_eq_true hb)
  · cases h; exact .slZ _ _ _
  · cases h

/-- What lies outside. -/
noncomputable def extOf (W : World) : Nat → Nat → Option Value := fun b o => match W.cell? ⟨b, o, none⟩ with
  | some v => absC v
  | none => none

theorem extOf_ok {W : World} (X : Ctx) (hX : X.ext = extOf W) : ExtOk X (whole W) := by
  refine ⟨fun b o v h => ?_⟩
  rw [hX] at h
  unfold extOf at h
  split at h
  · rename_i v' hv
    refine ⟨?_, v', hv, absC_ok h⟩
    rcases Nat.lt_or_ge b W.heap.size with h' | h'
    · exact h'
    · unfold World.cell? at hv; rw [Array.getElem?_eq_none h'] at hv; cases hv
  · cases h

/-- Kinds of types whose cells are seen. -/
def seen : TypeDesc → Bool
  | .bool | .int _ | .string | .pointer _ | .slice _ => true
  | _ => false

theorem cell_abs {P : Program} {w : World} {r : Reach} {base : Nat} {t : TypeId} {v : Value} (hs : (P.underlying t).any seen = true) (h : Cell.okWide P w r base t v) : ∃ u, absC v = some u := by
  cases hd : P.underlying t with
  | none => rw [hd] at hs; cases hs
  | some d =>
    rw [hd] at hs
    simp only [Option.any_some] at hs
    unfold Cell.okWide Cell.ok at h
    rw [hd] at h
    have h64 : (9223372036854775807 : Int) < (unk : Int) := by decide
    cases d with
    | bool => cases v <;> simp at h; exact ⟨_, rfl⟩
    | int k => cases v <;> simp at h; exact ⟨_, rfl⟩
    | string => cases v <;> simp at h; exact ⟨_, rfl⟩
    | pointer e =>
      cases v <;> simp at h
      rename_i p
      cases p with
      | none => exact ⟨_, rfl⟩
      | some a =>
        obtain ⟨b, o, sp⟩ := a
        have hsp : sp = none := h.2.1
        subst hsp
        exact ⟨_, rfl⟩
    | slice e =>
      cases v <;> simp at h
      rename_i p l c
      cases p with
      | none => exact ⟨_, rfl⟩
      | some a =>
        obtain ⟨b, o, sp⟩ := a
        simp at h
        have hsp : sp = none := h.2.2.2.1
        subst hsp
        have hc : Nat.blt c unk = true := Nat.ble_eq_true_of_le (by have := h.2.1; omega)
        exact ⟨.slice (some ⟨b, o, some 0⟩) l c, by simp only [absC, hc, cond_true]⟩
    | _ => cases hs

/-- A plain argument. -/
theorem value_abs {P : Program} {w : World} {r : Reach} {base : Nat} {t : TypeId} {v : Value} (hs : (P.underlying t).any seen = true) (h : Value.okWide P w r base t v) : ∃ u, absC v = some u := by
  refine cell_abs hs (t := t) (base := base) (r := r) (w := w) ?_
  unfold Value.okWide at h
  cases hd : P.underlying t with
  | none => rw [hd] at hs; cases hs
  | some d => rw [hd] at h hs; cases d <;> first | exact h | cases hs

/-- Cells one by one. -/
def absL : List Value → Option (List Value)
  | [] => some []
  | v :: l => match absC v, absL l with
    | some u, some k => some (u :: k)
    | _, _ => none

theorem absL_ok {m : Mu} : ∀ {l k : List Value}, absL l = some k → VRs m k l
  | [], k, h => by simp only [absL] at h; cases h; exact .nil
  | v :: l, k, h => by
    simp only [absL] at h
    split at h
    · rename_i u k' h1 h2
      cases h
      exact .cons (absC_ok h1) (absL_ok h2)
    · cases h

theorem absL_of : ∀ {l : List Value}, (∀ v ∈ l, ∃ u, absC v = some u) → ∃ k, absL l = some k ∧ k.length = l.length
  | [], _ => ⟨[], rfl, rfl⟩
  | v :: l, h => by
    obtain ⟨u, hu⟩ := h v List.mem_cons_self
    obtain ⟨k, hk, hl⟩ := absL_of (l := l) fun x hx => h x (List.mem_cons_of_mem _ hx)
    exact ⟨u :: k, by simp only [absL, hu, hk], by simp [hl]⟩

/-- A struct's argument whose cells are all plain. -/
theorem agg_abs {P : Program} {w : World} {r : Reach} {base : Nat} {t : TypeId} {v : Value} {fs : Array Field} {ts : List TypeId} (hd : P.underlying t = some (.struct fs)) (hc : P.cellTypes P.depth t = some ts)
    (hs : ∀ u ∈ ts, (P.underlying u).any seen = true) (h : Value.okWide P w r base t v) : ∃ cs k, v = .agg cs ∧ cs.size = P.cellsOf t ∧ absL cs.toList = some k ∧ k.length = P.cellsOf t := by
  unfold Value.okWide at h
  rw [hd] at h
  obtain ⟨cs, rfl, hsz, ts', hts, -, hall⟩ := h
  rw [hc] at hts
  cases hts
  obtain ⟨k, hk, hl⟩ := absL_of (l := cs.toList) fun x hx => by
    obtain ⟨i, hi⟩ := List.getElem?_of_mem hx
    rw [Array.getElem?_toList] at hi
    obtain ⟨u, hu, hok⟩ := hall i x hi
    exact cell_abs (hs u (List.mem_of_getElem? hu)) hok
  exact ⟨cs, k, rfl, hsz, hk, by rw [hl, Array.length_toList, hsz]⟩

end Go.Proofs.Ytglkgmomnbdkoaa
