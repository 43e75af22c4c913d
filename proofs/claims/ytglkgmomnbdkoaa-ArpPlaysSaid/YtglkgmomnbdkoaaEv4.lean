/- Cells read and written: the evaluator's and the model's. -/
import Derived.Test.YtglkgmomnbdkoaaEv3
namespace Go.Proofs.Ytglkgmomnbdkoaa
namespace Ev

/-- An abstract address and the world's. -/
inductive AR (m : Mu) : Addr → Addr → Prop
  | here {b : Nat} {L : Loc} (o o' : Nat) (h : m b = some L) (ho : o' = L.sh + o) : AR m ⟨b, o, none⟩ ⟨L.blk, o', none⟩
  | outside (b o : Nat) : AR m ⟨b, o, some 0⟩ ⟨b, o, none⟩

theorem AR.add {m : Mu} {a a' : Addr} (h : AR m a a') (n : Nat) : AR m (addA a n) ⟨a'.block, a'.off + n, none⟩ := by
  cases h with
  | here o o' h ho => exact .here _ _ h (by subst ho; simp only []; omega)
  | outside b o => exact .outside _ _

theorem AR.spot {m : Mu} {a a' : Addr} (h : AR m a a') : a'.spot = none := by cases h <;> rfl

theorem Addr.add_none (b o n : Nat) : Addr.add ⟨b, o, none⟩ n = ⟨b, o + n, none⟩ := by
  unfold Addr.add; split
  · rename_i h; subst h; rfl
  · rfl

theorem AR.add' {m : Mu} {a a' : Addr} (h : AR m a a') (n : Nat) : AR m (addA a n) (a'.add n) := by
  have := h.add n
  cases h <;> (rw [Addr.add_none]; exact this)

theorem VR.ptr_inv {m : Mu} {a : Addr} {v : Value} (h : VR m (.pointer (some a)) v) (ha : a.spot ≠ some 1) : ∃ a', v = .pointer (some a') ∧ AR m a a' := by
  cases h with
  | ptr o o' h ho => exact ⟨_, rfl, .here _ _ h ho⟩
  | ptrX b o => exact ⟨_, rfl, .outside _ _⟩
  | ptrG b o => exact absurd rfl ha

theorem AR.ptr {m : Mu} {a a' : Addr} (h : AR m a a') : VR m (.pointer (some a)) (.pointer (some a')) := by
  cases h with
  | here o o' h ho => exact .ptr _ _ h ho
  | outside b o => exact .ptrX _ _

theorem VR_nil_le {m : Mu} : Mu.le (fun _ => none) m := fun _ _ h => by cases h

section
variable {X : Ctx} {S : Base} {m : Mu} {H : Heap} {w : World} (hext : ExtOk X S) (hr : Rel S m H w)
include hext hr

theorem rd1_ok {a a' : Addr} {v : Value} (h : rd1 X H a = some v) (ha : AR m a a') : ∃ v', w.cell? a' = some v' ∧ VR m v v' := by
  cases ha with
  | @here b L o o' hb ho =>
    simp only [rd1] at h
    split at h
    · rename_i l e hg
      rw [getN_eq] at h
      obtain ⟨L', hm, c, fz, e', h1, h2, h3, h4, h5⟩ := hr.alive _ _ hg
      rw [hb] at hm; cases hm
      obtain ⟨v', hv', hvr⟩ := h5 _ _ h
      exact ⟨v', by simp [World.cell?, h1, ho, hv'], hvr⟩
    · cases h
  | outside b o =>
    simp only [rd1] at h
    obtain ⟨hk, v', hv', hvr⟩ := hext.ext _ _ _ h
    refine ⟨v', ?_, hvr.mono VR_nil_le⟩
    rw [← hv']
    simp only [World.cell?, (hr.kept b hk).2]

theorem rdN_ok {a a' : Addr} : ∀ {n : Nat} {l : List Value}, rdN X H a n = some l → AR m a a' →
    ∃ l', VRs m l l' ∧ l.length = n ∧ ∀ i v', l'[i]? = some v' → w.cell? ⟨a'.block, a'.off + i, none⟩ = some v' := by
  intro n l h ha
  cases ha with
  | @here b L o o' hb ho =>
    simp only [rdN] at h
    split at h
    · rename_i cs e hg
      obtain ⟨e1, e2⟩ := cutN_eq h
      obtain ⟨L', hm, c, fz, e', h1, h2, h3, h4, h5⟩ := hr.alive _ _ hg
      rw [hb] at hm; cases hm
      have hlen : l.length = n := by subst e1; simp; omega
      have hget : ∀ i, i < n → l[i]? = cs[o + i]? := by
        intro i hi; subst e1
        rw [List.getElem?_take_of_lt hi, List.getElem?_drop]
      have hex : ∀ i, i < n → ∃ v v', l[i]? = some v ∧ c[L.sh + (o + i)]? = some v' ∧ VR m v v' := by
        intro i hi
        have hlt : o + i < cs.length := by omega
        obtain ⟨v', hv', hvr⟩ := h5 (o + i) cs[o + i] (List.getElem?_eq_getElem hlt)
        exact ⟨cs[o + i], v', by rw [hget i hi, List.getElem?_eq_getElem hlt], hv', hvr⟩
      have hsz : L.sh + o + n ≤ c.size := by omega
      refine ⟨(c.toList.drop (L.sh + o)).take n, ?_, hlen, ?_⟩
      · refine VRs.of_get (by simp; omega) ?_
        intro i v v' hv hv'
        have hi : i < n := by
          rcases Nat.lt_or_ge i n with h' | h'
          · exact h'
          · rw [List.getElem?_eq_none (by omega)] at hv; cases hv
        obtain ⟨u, u', hu, hu', hur⟩ := hex i hi
        rw [hu] at hv; cases hv
        rw [List.getElem?_take_of_lt hi, List.getElem?_drop] at hv'
        have : c[L.sh + (o + i)]? = some v' := by rw [← hv', ← Nat.add_assoc]; simp
        rw [this] at hu'; cases hu'; exact hur
      · intro i v' hv'
        have hi : i < n := by
          rcases Nat.lt_or_ge i n with h' | h'
          · exact h'
          · rw [List.getElem?_eq_none (by simp; omega)] at hv'; cases hv'
        rw [List.getElem?_take_of_lt hi, List.getElem?_drop] at hv'
        simp only [World.cell?, h1]
        simp only [ho, Option.isSome_none, Bool.false_eq_true, if_false]
        rw [← hv']; simp
    · cases h
  | outside b o =>
    simp only [rdN] at h
    induction n generalizing l o with
    | zero => simp [extN] at h; subst h; exact ⟨[], .nil, rfl, fun i v' hv => by simp at hv⟩
    | succ n ih =>
      simp only [extN] at h
      split at h
      · rename_i v r hv hr'
        cases h
        obtain ⟨l', h1, h2, h3⟩ := ih _ hr'
        obtain ⟨hk, v', hv', hvr⟩ := hext.ext _ _ _ hv
        refine ⟨v' :: l', .cons (hvr.mono VR_nil_le) h1, by simp [h2], ?_⟩
        intro i u hu
        cases i with
        | zero =>
          simp at hu; subst hu
          rw [← hv']; simp only [World.cell?, (hr.kept b hk).2, Nat.add_zero]
        | succ i =>
          have := h3 i u (by simpa using hu)
          rw [← this]; congr 2; simp only []; omega
      · cases h
end

theorem run_load_cell {P : Program} {w : World} {a : Addr} {v : Value} (h : w.cell? a = some v) : (Go.load a).run P w = .ok v w := by
  rw [run_load, h]

theorem run_loadCellsFrom {P : Program} {w : World} {b o : Nat} : ∀ (n i : Nat) (acc : Array Value) (l : List Value), l.length = n →
    (∀ j v', l[j]? = some v' → w.cell? ⟨b, o + i + j, none⟩ = some v') → (loadCellsFrom ⟨b, o, none⟩ i n acc).run P w = .ok (acc ++ l.toArray) w := by
  intro n
  induction n with
  | zero => intro i acc l hl h; have : l = [] := List.length_eq_zero_iff.1 hl; subst this; simp [loadCellsFrom]
  | succ n ih =>
    intro i acc l hl h
    cases l with
    | nil => simp at hl
    | cons v l =>
      simp only [loadCellsFrom, Sem.run_bind]
      rw [Addr.add_none, run_load_cell (v := v) (by simpa using h 0 v (by simp))]
      simp only [Result.andThen_ok]
      rw [ih (i + 1) (acc.push v) l (by simpa using hl) (fun j v' hv => by
        have := h (j + 1) v' (by simpa using hv)
        rw [← this]; congr 2; omega)]
      simp

theorem run_loadCells {P : Program} {w : World} {b o n : Nat} {l : List Value} (hl : l.length = n)
    (h : ∀ j v', l[j]? = some v' → w.cell? ⟨b, o + j, none⟩ = some v') : (loadCells ⟨b, o, none⟩ n).run P w = .ok l.toArray w := by
  unfold loadCells
  rw [run_loadCellsFrom n 0 #[] l hl (by simpa using h)]
  simp

/-- A world with another row of cells in a block. -/
def _root_.Go.World.withObj (w : World) (b : Nat) (o : Obj) : World := { w with heap := w.heap.setIfInBounds b o }

theorem one_eq (v : Value) : one v = v.oneCell' := by cases v <;> rfl

theorem run_store_cell {P : Program} {w : World} {b o : Nat} {v : Value} {c : Array Value} {e : TypeId} {fz : Nat × Nat} (hv : one v = true)
    (hb : w.heap[b]? = some (.cells c e fz)) (ho : o < c.size) (hf : fz.1 = fz.2 ∨ c.size ≤ fz.1) :
    (Go.store ⟨b, o, none⟩ v).run P w = .ok () (w.withObj b (.cells (c.setIfInBounds o v) e fz)) := by
  rw [run_store P w _ v _ (by rw [← one_eq]; exact hv)]
  have hc : w.cell? ⟨b, o, none⟩ = some c[o] := by simp [World.cell?, hb, ho]
  have hfz : w.frozen? ⟨b, o, none⟩ = false := by
    obtain ⟨lo, hi⟩ := fz
    simp only [World.frozen?, hb]
    simp only [Bool.and_eq_false_iff, decide_eq_false_iff_not, Nat.not_le, Nat.not_lt]
    simp only [] at hf
    omega
  rw [hc, hfz]
  simp only [Bool.false_eq_true, if_false]
  congr 1
  simp only [World.setCell, World.withObj]
  congr 1
  apply Array.ext_getElem?
  intro j
  rw [Array.getElem?_modify, Array.getElem?_setIfInBounds]
  by_cases hj : b = j
  · subst hj
    have hlt : b < w.heap.size := by
      rcases Nat.lt_or_ge b w.heap.size with h' | h'
      · exact h'
      · rw [Array.getElem?_eq_none h'] at hb; cases hb
    have hg : w.heap[b] = .cells c e fz := by rw [Array.getElem?_eq_getElem hlt] at hb; exact Option.some.inj hb
    simp [hlt, hg]
  · simp [hj]

theorem World.withObj_get (w : World) (b : Nat) (o : Obj) (j : Nat) : (w.withObj b o).heap[j]? = if b = j ∧ b < w.heap.size then some o else w.heap[j]? := by
  simp only [World.withObj, Array.getElem?_setIfInBounds]
  by_cases h : b = j
  · subst h
    by_cases h2 : b < w.heap.size
    · simp [h2]
    · simp [h2]
  · simp [h]

theorem World.withObj_twice (w : World) (b : Nat) (o o' : Obj) : (w.withObj b o).withObj b o' = w.withObj b o' := by
  simp [World.withObj]

theorem run_storeCells {P : Program} {b o : Nat} {e : TypeId} {fz : Nat × Nat} : ∀ (vs : List Value) (i : Nat) (w : World) (c : Array Value), vs.all one = true →
    w.heap[b]? = some (.cells c e fz) → o + i + vs.length ≤ c.size → (fz.1 = fz.2 ∨ c.size ≤ fz.1) →
    ∃ c', (storeCells ⟨b, o, none⟩ vs i).run P w = .ok () (w.withObj b (.cells c' e fz)) ∧ c'.size = c.size ∧
      ∀ j, c'[j]? = if o + i ≤ j ∧ j < o + i + vs.length then vs[j - (o + i)]? else c[j]? := by
  intro vs
  induction vs with
  | nil =>
    intro i w c _ hb _ _
    refine ⟨c, ?_, rfl, fun j => by rw [if_neg (by simp)]⟩
    simp only [storeCells, Sem.run_pure]
    congr 1
    have hlt : b < w.heap.size := by
      rcases Nat.lt_or_ge b w.heap.size with h' | h'
      · exact h'
      · rw [Array.getElem?_eq_none h'] at hb; cases hb
    unfold World.withObj
    have : w.heap.setIfInBounds b (.cells c e fz) = w.heap := by
      apply Array.ext_getElem?
      intro j
      rw [Array.getElem?_setIfInBounds]
      by_cases hj : b = j
      · subst hj; rw [if_pos rfl, if_pos hlt, hb]
      · simp [hj]
    rw [this]
  | cons v vs ih =>
    intro i w c hone hb hle hf
    simp only [List.all_cons, Bool.and_eq_true] at hone
    simp only [List.length_cons] at hle
    simp only [storeCells, Sem.run_bind]
    rw [Addr.add_none, run_store_cell hone.1 hb (by omega) hf]
    simp only [Result.andThen_ok]
    have hlt : b < w.heap.size := by
      rcases Nat.lt_or_ge b w.heap.size with h' | h'
      · exact h'
      · rw [Array.getElem?_eq_none h'] at hb; cases hb
    obtain ⟨c', h1, h2, h3⟩ := ih (i + 1) (w.withObj b (.cells (c.setIfInBounds (o + i) v) e fz)) (c.setIfInBounds (o + i) v) hone.2
      (by rw [World.withObj_get, if_pos ⟨rfl, hlt⟩]) (by simp; omega) (by simpa using hf)
    refine ⟨c', ?_, by simpa using h2, ?_⟩
    · rw [h1, World.withObj_twice]
    · intro j
      rw [h3 j]
      by_cases hj : o + (i + 1) ≤ j ∧ j < o + (i + 1) + vs.length
      · rw [if_pos hj, if_pos (by simp; omega)]
        have : j - (o + i) = (j - (o + (i + 1))) + 1 := by omega
        rw [this, List.getElem?_cons_succ]
      · rw [if_neg hj, Array.getElem?_setIfInBounds]
        by_cases hj2 : o + i = j
        · rw [if_pos hj2, if_pos (by omega), if_pos (by simp; omega)]
          subst hj2; simp
        · rw [if_neg hj2, if_neg (by simp; omega)]

theorem VRs.all_one {m : Mu} : ∀ {l l' : List Value}, VRs m l l' → l.all one = l'.all one
  | _, _, .nil => rfl
  | _, _, .cons h h' => by simp [h.one, h'.all_one]

/-- A row of values written into a living block. -/
theorem wrN_ok {S : Base} {m : Mu} {H H' : Heap} {w : World} (hr : Rel S m H w) {P : Program} {a a' : Addr} {vs vs' : List Value} (h : wrN H a vs = some H') (ha : AR m a a') (hv : VRs m vs vs') :
    ∃ w', (storeCells a' vs').run P w = .ok () w' ∧ Rel S m H' w' ∧ w'.heap.size = w.heap.size ∧ w'.tape = w.tape ∧ w'.drawn = w.drawn := by
  cases ha with
  | outside b o => simp [wrN] at h
  | @here b L o o' hb ho =>
    simp only [wrN] at h
    split at h
    · rename_i l e hg
      cases hall : vs.all one with
      | false => simp [hall] at h
      | true =>
        simp only [hall, cond_true] at h
        split at h
        · rename_i l' hsp
          cases h
          obtain ⟨L', hm, c, fz, e', h1, h2, h3, h4, h5⟩ := hr.alive _ _ hg
          rw [hb] at hm; cases hm
          obtain ⟨e1, e2⟩ := splice_eq _ _ _ _ hsp
          have hall' : vs'.all one = true := hv.all_one ▸ hall
          have hlen := hv.length
          obtain ⟨c', k1, k2, k3⟩ := run_storeCells (P := P) (o := o') vs' 0 w c hall' h1 (by omega) (by rw [h2]; exact h3)
          have hlt : L.blk < w.heap.size := hr.bound _ _ hb
          refine ⟨_, k1, ?_, by simp [World.withObj], rfl, rfl⟩
          refine hr.set hg hb (by simp [World.withObj]) (fun j hj => by rw [World.withObj_get, if_neg (by omega)]) rfl rfl rfl ?_
          refine ⟨c', fz, e', by rw [World.withObj_get, if_pos ⟨rfl, hlt⟩], by rw [k2, h2], h3, by rw [splice_len hsp]; exact h4, ?_⟩
          intro i v hvi
          rw [splice_get hsp] at hvi
          rw [k3]
          by_cases hin : o ≤ i ∧ i < o + vs.length
          · rw [if_pos hin] at hvi
            obtain ⟨v', hv', hvr⟩ := hv.get hvi
            refine ⟨v', ?_, hvr⟩
            rw [if_pos (by omega), ← hv']
            congr 1; omega
          · rw [if_neg hin] at hvi
            obtain ⟨v', hv', hvr⟩ := h5 _ _ hvi
            exact ⟨v', by rw [if_neg (by omega)]; exact hv', hvr⟩
        · cases h
    · cases h

end Ev
end Go.Proofs.Ytglkgmomnbdkoaa
