/- Regions that draw their order: what the check says, and one operation of them at a time. -/
import Derived.Test.YtglkgmomnbdkoaaEv13
namespace Go.Proofs.Ytglkgmomnbdkoaa
namespace Ev

section
variable {X : Ctx} {ops : Array Oper}

/-- Downward closed. -/
def Closed (ops : Array Oper) (S : Nat → Prop) : Prop := ∀ i o, ops[i]? = some o → S i → ∀ e ∈ o.after.toList, Region.binds .any e = true → S e.on

theorem mask_closed {S : Nat → Prop} (hS : Closed ops S) {ms : List Nat} (hms : ∀ i j, (ms.getD i 0).testBit j = true → S i → S j) {i : Nat} {o : Oper} (ho : ops[i]? = some o) (hi : S i) {j : Nat}
    (h : (maskOf ms o).testBit j = true) : S j := by
  unfold maskOf at h
  have hall := hS i o ho hi
  generalize hl : o.after.toList = l at h hall
  have key : ∀ (l : List Edge) (s : Nat), (∀ e ∈ l, Region.binds .any e = true → S e.on) → (s.testBit j = true → S j) →
      (l.foldl (fun s e => if Region.binds .any e then s ||| 2 ^ e.on ||| ms.getD e.on 0 else s) s).testBit j = true → S j := by
    intro l
    induction l with
    | nil => intro s _ hs h; exact hs h
    | cons e l ih =>
      intro s hl hs h
      simp only [List.foldl_cons] at h
      refine ih _ (fun e' he' => hl e' (List.mem_cons_of_mem _ he')) ?_ h
      intro hb
      split at hb
      · rename_i hbind
        have he := hl e List.mem_cons_self hbind
        simp only [Nat.testBit_or, Bool.or_eq_true, Nat.testBit_two_pow] at hb
        rcases hb with (hb | hb) | hb
        · exact hs hb
        · simp at hb; subst hb; exact he
        · exact hms _ _ hb he
      · exact hs hb
  exact key l 0 hall (by simp) h

theorem masks_closed {S : Nat → Prop} (hS : Closed ops S) : ∀ (os : List Oper) (ms : List Nat), ops.toList.drop ms.length = os → (∀ i j, (ms.getD i 0).testBit j = true → S i → S j) →
    ∀ i j, ((masks os ms).getD i 0).testBit j = true → S i → S j := by
  intro os
  induction os with
  | nil => intro ms _ h; exact h
  | cons o os ih =>
    intro ms hd h
    refine ih _ ?_ ?_
    · rw [List.length_append, List.length_singleton, ← List.drop_drop, hd]; rfl
    · intro i j hb hi
      by_cases hlt : i < ms.length
      · rw [List.getD_eq_getElem?_getD, List.getElem?_append_left hlt, ← List.getD_eq_getElem?_getD] at hb
        exact h i j hb hi
      · by_cases he : i = ms.length
        · subst he
          rw [List.getD_eq_getElem?_getD, List.getElem?_append_right (Nat.le_refl _)] at hb
          simp at hb
          have hget : ops.toList[ms.length]? = some o := by
            have : (ops.toList.drop ms.length)[0]? = some o := by rw [hd]; rfl
            simpa using this
          exact mask_closed hS h (by simpa using hget) hi hb
        · rw [List.getD_eq_getElem?_getD, List.getElem?_eq_none (by simp; omega)] at hb
          simp at hb

theorem freeAt_get {tt : T TI} {ms : List Nat} {j : Nat} {y : Oper} : ∀ {os : List Oper} {k : Nat}, freeAt tt ops ms j y os k = true → ∀ i x, os[i]? = some x → k + i < j → (ms.getD j 0).testBit (k + i) = true ∨ freePair tt ops x y = true := by
  intro os
  induction os with
  | nil => intro k _ i x hx; simp at hx
  | cons z os ih =>
    intro k h i x hx hlt
    simp only [freeAt, Bool.and_eq_true, Bool.or_eq_true] at h
    cases i with
    | zero =>
      simp at hx; subst hx
      rcases h.1 with (h1 | h1) | h1
      · have := Nat.le_of_ble_eq_true h1; omega
      · exact .inl h1
      · exact .inr h1
    | succ i =>
      have := ih h.2 i x (by simpa using hx) (by omega)
      rw [show k + (i + 1) = k + 1 + i by omega]; exact this

theorem freeFrom_get {tt : T TI} {ms : List Nat} : ∀ {os : List Oper} {k : Nat}, freeFrom tt ops ms os k = true → ∀ j y, os[j]? = some y → freeAt tt ops ms (k + j) y ops.toList 0 = true ∧ backward y (k + j) = true := by
  intro os
  induction os with
  | nil => intro k _ j y hy; simp at hy
  | cons z os ih =>
    intro k h j y hy
    simp only [freeFrom, Bool.and_eq_true] at h
    cases j with
    | zero => simp at hy; subst hy; exact ⟨h.1.1, h.1.2⟩
    | succ j =>
      have := ih h.2 j y (by simpa using hy)
      rw [show k + (j + 1) = k + 1 + j by omega]; exact this

/-- Ahead of: by the bits. -/
def Ord (ops : Array Oper) (i j : Nat) : Prop := ((masks ops.toList []).getD j 0).testBit i = true

theorem Ord.closed {i j : Nat} (h : Ord ops i j) {S : Nat → Prop} (hS : Closed ops S) (hj : S j) : S i :=
  masks_closed hS ops.toList [] rfl (by intro i j hb; simp at hb) j i h hj

theorem maskOf_bit {ms : List Nat} {o : Oper} {j : Nat} : (maskOf ms o).testBit j = true ↔ ∃ e ∈ o.after.toList, Region.binds .any e = true ∧ (j = e.on ∨ (ms.getD e.on 0).testBit j = true) := by
  unfold maskOf
  generalize o.after.toList = l
  have key : ∀ (l : List Edge) (s : Nat), (l.foldl (fun s e => if Region.binds .any e then s ||| 2 ^ e.on ||| ms.getD e.on 0 else s) s).testBit j = true ↔
      s.testBit j = true ∨ ∃ e ∈ l, Region.binds .any e = true ∧ (j = e.on ∨ (ms.getD e.on 0).testBit j = true) := by
    intro l
    induction l with
    | nil => intro s; simp
    | cons e l ih =>
      intro s
      simp only [List.foldl_cons]
      rw [ih]
      cases hb : Region.binds .any e with
      | true =>
        simp only [if_true, Nat.testBit_or, Bool.or_eq_true, Nat.testBit_two_pow, decide_eq_true_eq, List.mem_cons, exists_eq_or_imp, hb, true_and]
        constructor
        · rintro ((( h | h) | h) | h)
          · exact .inl h
          · exact .inr (.inl (.inl h.symm))
          · exact .inr (.inl (.inr h))
          · exact .inr (.inr h)
        · rintro (h | (h | h) | h)
          · exact .inl (.inl (.inl h))
          · exact .inl (.inl (.inr h.symm))
          · exact .inl (.inr h)
          · exact .inr h
      | false => simp [hb]
  rw [key]; simp

theorem masks_pre : ∀ (os : List Oper) (ms : List Nat), (masks os ms).take ms.length = ms := by
  intro os
  induction os with
  | nil => intro ms; simp [masks]
  | cons o os ih =>
    intro ms
    have h := ih (ms ++ [maskOf ms o])
    have h2 := congrArg (List.take ms.length) h
    rw [List.take_take] at h2
    simpa [masks, Nat.min_eq_left] using h2

theorem masks_at : ∀ (os : List Oper) (ms : List Nat) (i : Nat) (o : Oper), os[i]? = some o → (masks os ms)[ms.length + i]? = some (maskOf ((masks os ms).take (ms.length + i)) o) := by
  intro os
  induction os with
  | nil => intro ms i o h; simp at h
  | cons z os ih =>
    intro ms i o h
    cases i with
    | zero =>
      simp at h; subst h
      have h1 := masks_pre os (ms ++ [maskOf ms z])
      have h2 : (masks (z :: os) ms).take ms.length = ms := masks_pre _ _
      rw [Nat.add_zero, h2]
      have h3 : ((masks os (ms ++ [maskOf ms z])).take (ms ++ [maskOf ms z]).length)[ms.length]? = some (maskOf ms z) := by rw [h1]; simp
      rw [List.getElem?_take] at h3
      simpa [masks] using h3
    | succ i =>
      have := ih (ms ++ [maskOf ms z]) i o (by simpa using h)
      rw [List.length_append, List.length_singleton, Nat.add_assoc, Nat.add_comm 1 i] at this
      exact this

theorem masks_len : ∀ (os : List Oper) (ms : List Nat), (masks os ms).length = ms.length + os.length := by
  intro os
  induction os with
  | nil => intro ms; simp [masks]
  | cons o os ih => intro ms; simp only [masks]; rw [ih]; simp; omega

theorem Ord.iff (hb : ∀ j y, ops[j]? = some y → ∀ e ∈ y.after.toList, Region.binds .any e = true → e.on < j) {j i : Nat} :
    Ord ops j i ↔ ∃ o, ops[i]? = some o ∧ ∃ e ∈ o.after.toList, Region.binds .any e = true ∧ (j = e.on ∨ Ord ops j e.on) := by
  have hlen : (masks ops.toList []).length = ops.size := by rw [masks_len]; simp
  by_cases hi : i < ops.size
  · have hget : ops[i]? = some ops[i] := Array.getElem?_eq_getElem hi
    have h1 := masks_at ops.toList [] i ops[i] (by simp [hi])
    simp only [List.length_nil, Nat.zero_add] at h1
    unfold Ord
    rw [List.getD_eq_getElem?_getD, h1, Option.getD_some, maskOf_bit]
    have hsame : ∀ e ∈ ops[i].after.toList, Region.binds .any e = true → ((masks ops.toList []).take i).getD e.on 0 = (masks ops.toList []).getD e.on 0 := by
      intro e he hbe
      have := hb i _ hget e he hbe
      rw [List.getD_eq_getElem?_getD, List.getD_eq_getElem?_getD, List.getElem?_take_of_lt this]
    constructor
    · rintro ⟨e, he, hbe, h⟩
      exact ⟨_, hget, e, he, hbe, by rwa [hsame e he hbe] at h⟩
    · rintro ⟨o, ho, e, he, hbe, h⟩
      rw [hget] at ho; cases ho
      exact ⟨e, he, hbe, by rwa [hsame e he hbe]⟩
  · constructor
    · intro h
      unfold Ord at h
      rw [List.getD_eq_getElem?_getD, List.getElem?_eq_none (by omega)] at h
      simp at h
    · rintro ⟨o, ho, -⟩
      rw [Array.getElem?_eq_none (by omega)] at ho; cases ho

theorem Ord.trans (hb : ∀ j y, ops[j]? = some y → ∀ e ∈ y.after.toList, Region.binds .any e = true → e.on < j) {t j i : Nat} (h1 : Ord ops t j) (h2 : Ord ops j i) : Ord ops t i := by
  induction i using Nat.strongRecOn with
  | _ i ih =>
    obtain ⟨o, ho, e, he, hbe, h⟩ := (Ord.iff hb).1 h2
    have hlt := hb i o ho e he hbe
    refine (Ord.iff hb).2 ⟨o, ho, e, he, hbe, .inr ?_⟩
    rcases h with rfl | h
    · exact h1
    · exact ih _ hlt h

/-- What the check says of a region. -/
structure Planned (tt : T TI) (ops : Array Oper) (ps : List (Nat × Nat)) : Prop where
  pair : ∀ i j x y, ops[i]? = some x → ops[j]? = some y → i < j → Ord ops i j ∨ freePair tt ops x y = true
  back : ∀ j y, ops[j]? = some y → ∀ e ∈ y.after.toList, Region.binds .any e = true → e.on < j
  ask1 : ∀ i j x y, ops[i]? = some x → ops[j]? = some y → cls tt x.op = .r → cls tt y.op = .w → i ≠ j → (j < i → ¬ Ord ops j i) → (i < j → ¬ Ord ops i j) → (i, j + 1) ∈ ps
  ask2 : ∀ i j x y, ops[i]? = some x → ops[j]? = some y → cls tt x.op = .r → (cls tt y.op = .a ∨ cls tt y.op = .w) → j < i → ¬ Ord ops j i →
    ∃ j0, j0 ≤ j ∧ (i, j0) ∈ ps ∧ (∃ z, ops[j0]? = some z ∧ (cls tt z.op = .a ∨ cls tt z.op = .w) ∧ ¬ Ord ops j0 i) ∧
      ∀ t z, t < j0 → ops[t]? = some z → (cls tt z.op = .a ∨ cls tt z.op = .w) → Ord ops t i
  trans : ∀ t j i, Ord ops t j → Ord ops j i → Ord ops t i

theorem asksAt_one {tt : T TI} {ms : List Nat} {i : Nat} : ∀ {os : List Oper} {k : Nat} {first : Bool}, ∀ j y, os[j]? = some y → cls tt y.op = .w → i ≠ k + j → (k + j < i → (ms.getD i 0).testBit (k + j) = false) →
    (i < k + j → (ms.getD (k + j) 0).testBit i = false) → (i, k + j + 1) ∈ asksAt tt ms i os k first := by
  intro os
  induction os with
  | nil => intro k first j y hy; simp at hy
  | cons z os ih =>
    intro k first j y hy hw hne h1 h2
    cases j with
    | zero =>
      simp at hy; subst hy
      simp only [Nat.add_zero] at hne h1 h2 ⊢
      unfold asksAt
      rw [hw]
      simp only
      by_cases hlt : k < i
      · have e1 : Nat.blt k i = true := Nat.ble_eq_true_of_le hlt
        rw [e1, h1 hlt]
        simp only [cond_true, cond_false]
        cases first <;> simp
      · have hgt : i < k := by omega
        have e1 : Nat.blt k i = false := by
          cases hb : Nat.blt k i with
          | false => rfl
          | true => have : k < i := Nat.le_of_ble_eq_true hb; omega
        have e2 : Nat.beq i k = false := by
          cases hb : Nat.beq i k with
          | false => rfl
          | true => exact absurd (Nat.eq_of_beq_eq_true hb) hne
        rw [e1, e2, h2 hgt]
        simp
    | succ j =>
      have key : ∀ first, (i, k + (j + 1) + 1) ∈ asksAt tt ms i os (k + 1) first := by
        intro first
        have := ih (k := k + 1) (first := first) j y (by simpa using hy) hw (by omega) (by rw [show k + 1 + j = k + (j + 1) by omega]; exact h1) (by rw [show k + 1 + j = k + (j + 1) by omega]; exact h2)
        rw [show k + (j + 1) + 1 = k + 1 + j + 1 by omega]; exact this
      unfold asksAt
      split
      · cases Nat.blt k i
        · simp only [cond_false]
          cases (Nat.beq i k || (ms.getD k 0).testBit i)
          · simp [key]
          · simp [key]
        · simp only [cond_true]
          cases (ms.getD i 0).testBit k
          · simp only [cond_false]
            cases first <;> simp [key]
          · simp [key]
      · cases (Nat.blt k i && !(ms.getD i 0).testBit k && first) <;> simp [key]
      · exact key _

theorem asksAt_two {tt : T TI} {ms : List Nat} {i : Nat} : ∀ {os : List Oper} {k : Nat}, ∀ j y, os[j]? = some y → (cls tt y.op = .a ∨ cls tt y.op = .w) → k + j < i → (ms.getD i 0).testBit (k + j) = false →
    ∃ j0, j0 ≤ j ∧ (i, k + j0) ∈ asksAt tt ms i os k true ∧ (∃ z, os[j0]? = some z ∧ (cls tt z.op = .a ∨ cls tt z.op = .w) ∧ (ms.getD i 0).testBit (k + j0) = false) ∧
      ∀ t z, t < j0 → os[t]? = some z → (cls tt z.op = .a ∨ cls tt z.op = .w) → (ms.getD i 0).testBit (k + t) = true := by
  intro os
  induction os with
  | nil => intro k j y hy; simp at hy
  | cons z os ih =>
    intro k j y hy hc hlt hb
    have hki : k < i := by omega
    have e1 : Nat.blt k i = true := Nat.ble_eq_true_of_le hki
    have rec_ : j ≠ 0 → (asksAt tt ms i (z :: os) k true = asksAt tt ms i os (k + 1) true) → ((cls tt z.op = .a ∨ cls tt z.op = .w) → (ms.getD i 0).testBit k = true) →
        ∃ j0, j0 ≤ j ∧ (i, k + j0) ∈ asksAt tt ms i (z :: os) k true ∧ (∃ z', (z :: os)[j0]? = some z' ∧ (cls tt z'.op = .a ∨ cls tt z'.op = .w) ∧ (ms.getD i 0).testBit (k + j0) = false) ∧
          ∀ t z', t < j0 → (z :: os)[t]? = some z' → (cls tt z'.op = .a ∨ cls tt z'.op = .w) → (ms.getD i 0).testBit (k + t) = true := by
      intro hj0 heq hz
      obtain ⟨j, rfl⟩ : ∃ j', j = j' + 1 := ⟨j - 1, by omega⟩
      obtain ⟨j0, q1, q2, ⟨z0, q4, q5, q6⟩, q3⟩ := ih (k := k + 1) j y (by simpa using hy) hc (by omega) (by rw [show k + 1 + j = k + (j + 1) by omega]; exact hb)
      refine ⟨j0 + 1, by omega, ?_, ⟨z0, by simpa using q4, q5, by rw [show k + (j0 + 1) = k + 1 + j0 by omega]; exact q6⟩, ?_⟩
      · rw [heq, show k + (j0 + 1) = k + 1 + j0 by omega]; exact q2
      · intro t z' ht hz' hcz
        cases t with
        | zero => simp at hz'; subst hz'; exact hz hcz
        | succ t =>
          rw [show k + (t + 1) = k + 1 + t by omega]
          exact q3 t z' (by omega) (by simpa using hz') hcz
    by_cases hza : cls tt z.op = .a ∨ cls tt z.op = .w
    · cases hbit : (ms.getD i 0).testBit k with
      | false =>
        refine ⟨0, by omega, ?_, ⟨z, by simp, hza, by simpa using hbit⟩, fun t z' ht => by omega⟩
        unfold asksAt
        rcases hza with hza | hza
        · rw [hza]; simp only [e1, hbit]; simp
        · rw [hza]; simp only [e1, hbit]; simp
      | true =>
        have hj0 : j ≠ 0 := by
          intro e; subst e; rw [Nat.add_zero] at hb; rw [hb] at hbit; cases hbit
        refine rec_ hj0 ?_ (fun _ => hbit)
        rw [asksAt]
        rcases hza with hza | hza
        · rw [hza]; simp only [e1, hbit]; simp
        · rw [hza]; simp only [e1, hbit]; simp
    · have hj0 : j ≠ 0 := by
        intro e; subst e; simp at hy; subst hy; exact hza hc
      refine rec_ hj0 ?_ (fun h => absurd h hza)
      rw [asksAt]
      split
      · rename_i h; exact absurd (.inr h) hza
      · rename_i h; exact absurd (.inl h) hza
      · rfl

theorem asks_get {tt : T TI} {all : List Oper} {ms : List Nat} : ∀ {os : List Oper} {k : Nat} i x p, os[i]? = some x → cls tt x.op = .r → p ∈ asksAt tt ms (k + i) all 0 true → p ∈ asks tt all ms os k := by
  intro os
  induction os with
  | nil => intro k i x p hx; simp at hx
  | cons z os ih =>
    intro k i x p hx hr hp
    cases i with
    | zero =>
      simp at hx; subst hx
      unfold asks
      rw [hr]
      exact List.mem_append_left _ hp
    | succ i =>
      have := ih (k := k + 1) i x p (by simpa using hx) hr (by rw [show k + 1 + i = k + (i + 1) by omega]; exact hp)
      unfold asks
      split
      · exact List.mem_append_right _ this
      · exact this

theorem plan_ok {tt : T TI} {ps : List (Nat × Nat)} (h : plan tt ops.toList = some ps) : Planned tt ops ps := by
  unfold plan at h
  simp only [Array.toArray_toList] at h
  cases hf : freeFrom tt ops (masks ops.toList []) ops.toList 0 with
  | false => simp [hf] at h
  | true =>
    simp only [hf, cond_true] at h
    cases h
    have back : ∀ j y, ops[j]? = some y → ∀ e ∈ y.after.toList, Region.binds .any e = true → e.on < j := by
      intro j y hy e he hb
      obtain ⟨-, h1⟩ := freeFrom_get hf j y (by simpa using hy)
      have := List.all_eq_true.1 h1 e he
      simp only [hb, Bool.not_true, Bool.false_or, Nat.zero_add] at this
      exact Nat.le_of_ble_eq_true this
    refine ⟨?_, back, ?_, ?_, ?_⟩
    · intro i j x y hx hy hij
      obtain ⟨h1, -⟩ := freeFrom_get hf j y (by simpa using hy)
      rcases freeAt_get h1 i x (by simpa using hx) (by simpa using hij) with h2 | h2
      · left; unfold Ord; simpa using h2
      · exact .inr h2
    · intro i j x y hx hy hr hw hne h1 h2
      refine asks_get i x _ (by simpa using hx) hr ?_
      have := asksAt_one (tt := tt) (ms := masks ops.toList []) (i := i) (os := ops.toList) (k := 0) (first := true) j y (by simpa using hy) hw (by simpa using hne)
        (fun hlt => by simpa [Ord] using h1 (by simpa using hlt)) (fun hlt => by simpa [Ord] using h2 (by simpa using hlt))
      simpa using this
    · intro i j x y hx hy hr hc hlt hno
      obtain ⟨j0, q1, q2, ⟨z0, q4, q5, q6⟩, q3⟩ := asksAt_two (tt := tt) (ms := masks ops.toList []) (i := i) (os := ops.toList) (k := 0) j y (by simpa using hy) hc (by simpa using hlt) (by simpa [Ord] using hno)
      refine ⟨j0, q1, asks_get i x _ (by simpa using hx) hr (by simpa using q2), ⟨z0, by simpa using q4, q5, by simpa [Ord] using q6⟩, ?_⟩
      intro t z ht hz hcz
      have := q3 t z ht (by simpa using hz) hcz
      simpa [Ord] using this
    · exact fun t j i h1 h2 => Ord.trans back h1 h2

/-- The run as it is written, state by state. -/
structure States (X : Ctx) (call : Call) (os : List Oper) (Fs : Nat → Frm) (Hs : Nat → Heap) : Prop where
  run : ∀ i o, os[i]? = some o → run1 X call os o (Fs i) (Hs i) = some (Fs (i + 1), Hs (i + 1))

theorem runL_states {call : Call} {all : List Oper} : ∀ {l : List Oper} {F F' : Frm} {H H' : Heap}, runL X call all l F H = some (F', H') →
    ∃ (Fs : Nat → Frm) (Hs : Nat → Heap), Fs 0 = F ∧ Hs 0 = H ∧ Fs l.length = F' ∧ Hs l.length = H' ∧ ∀ i o, l[i]? = some o → run1 X call all o (Fs i) (Hs i) = some (Fs (i + 1), Hs (i + 1)) := by
  intro l
  induction l with
  | nil => intro F F' H H' h; simp only [runL] at h; cases h; exact ⟨fun _ => F, fun _ => H, rfl, rfl, rfl, rfl, fun i o ho => by simp at ho⟩
  | cons o l ih =>
    intro F F' H H' h
    simp only [runL] at h
    split at h
    · rename_i F1 H1 h1
      obtain ⟨Fs, Hs, a1, a2, a3, a4, a5⟩ := ih h
      refine ⟨fun i => match i with | 0 => F | i + 1 => Fs i, fun i => match i with | 0 => H | i + 1 => Hs i, rfl, rfl, a3, a4, ?_⟩
      intro i o' ho'
      cases i with
      | zero => simp at ho'; subst ho'; simp only [a1, a2]; exact h1
      | succ i => exact a5 i o' (by simpa using ho')
    · cases h

theorem runS_states {call : Call} {all : List Oper} : ∀ {l : List Oper} {F : Frm} {H : Heap} {st : List (Frm × Heap)}, runS X call all l F H = some st →
    ∃ (Fs : Nat → Frm) (Hs : Nat → Heap), Fs 0 = F ∧ Hs 0 = H ∧ st.length = l.length + 1 ∧ (∀ i, i ≤ l.length → st[i]? = some (Fs i, Hs i)) ∧ ∀ i o, l[i]? = some o → run1 X call all o (Fs i) (Hs i) = some (Fs (i + 1), Hs (i + 1)) := by
  intro l
  induction l with
  | nil =>
    intro F H st h
    simp only [runS] at h; cases h
    refine ⟨fun _ => F, fun _ => H, rfl, rfl, rfl, ?_, fun i o ho => by simp at ho⟩
    intro i hi
    have : i = 0 := by simpa using hi
    subst this; rfl
  | cons o l ih =>
    intro F H st h
    simp only [runS] at h
    split at h
    · rename_i F1 H1 h1
      split at h
      · rename_i st1 hst
        cases h
        obtain ⟨Fs, Hs, a1, a2, a3, a4, a5⟩ := ih hst
        refine ⟨fun i => match i with | 0 => F | i + 1 => Fs i, fun i => match i with | 0 => H | i + 1 => Hs i, rfl, rfl, by simp [a3], ?_, ?_⟩
        · intro i hi
          cases i with
          | zero => rfl
          | succ i => simpa using a4 i (by simpa using hi)
        · intro i o' ho'
          cases i with
          | zero => simp at ho'; subst ho'; simp only [a1, a2]; exact h1
          | succ i => exact a5 i o' (by simpa using ho')
      · cases h
    · cases h

theorem veq_ok : ∀ (n : Nat) (a b : Value), veq n a b = true → a = b := by
  intro n
  have base : ∀ (n : Nat) (a b : Value), (∀ x y, veq.veqL (veq (n - 1)) x y = true → x = y) → veq n a b = true → a = b := by
    intro n a b hl h
    unfold veq at h
    split at h
    · simp at h; rw [h]
    · simp at h; rw [h.1, h.2]
    · have : ∀ x y : ByteArray, x.data.toList = y.data.toList → x = y := fun x y e => ByteArray.ext (Array.toList_inj.1 e)
      exact congrArg Value.string (this _ _ (by simpa using h))
    · simp at h; rw [h]
    · simp only [Bool.and_eq_true, decide_eq_true_eq] at h
      rw [h.1.1, Nat.eq_of_beq_eq_true h.1.2, Nat.eq_of_beq_eq_true h.2]
    · simp at h; rw [h]
    · rfl
    · rfl
    · rw [Array.toList_inj.1 (hl _ _ h)]
    · rw [Array.toList_inj.1 (hl _ _ h)]
    · cases h
  induction n with
  | zero =>
    intro a b h
    have hl : ∀ l k : List Value, veq.veqL (veq 0) l k = true → l = k ∨ True := fun _ _ _ => .inr trivial
    clear hl
    cases a <;> cases b <;> simp only [veq, Bool.false_eq_true] at h
    · simp at h; rw [h]
    · simp at h; rw [h.1, h.2]
    · have : ∀ x y : ByteArray, x.data.toList = y.data.toList → x = y := fun x y e => ByteArray.ext (Array.toList_inj.1 e)
      exact congrArg Value.string (this _ _ (by simpa using h))
    · simp at h; rw [h]
    · simp only [Bool.and_eq_true, decide_eq_true_eq] at h
      rw [h.1.1, Nat.eq_of_beq_eq_true h.1.2, Nat.eq_of_beq_eq_true h.2]
    · simp at h; rw [h]
    · rfl
    · rfl
  | succ n ih =>
    intro a b h
    refine base (n + 1) a b ?_ h
    intro l
    induction l with
    | nil => intro k h; cases k with
      | nil => rfl
      | cons y k => simp [veq.veqL] at h
    | cons x l ih2 =>
      intro k h
      cases k with
      | nil => simp [veq.veqL] at h
      | cons y k =>
        simp only [veq.veqL, Bool.and_eq_true] at h
        rw [ih _ _ h.1, ih2 _ h.2]

end
end Ev
end Go.Proofs.Ytglkgmomnbdkoaa
