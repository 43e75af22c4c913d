/- Regions that draw their order: any order comes to what the written one comes to. -/
import Derived.Test.YtglkgmomnbdkoaaEv15
namespace Go.Proofs.Ytglkgmomnbdkoaa
namespace Ev

/-! ### The way back -/

section
variable {P : Program} {X : Ctx} {ops : Array Oper}

theorem eval_get {F G : Frm} {x : Operand} (h : ∀ t, x = .tmp t → G.t.get t = F.t.get t) : F.eval x = G.eval x := by
  cases x with
  | tmp t => simp only [Frm.eval]; rw [h t rfl]
  | _ => rfl

theorem wantedBy_get {F G : Frm} {o : Oper} (h : ∀ j w g d, o.guard = some (j, w) → ops[j]? = some g → g.dst = some d → G.t.get d = F.t.get d) : wantedBy F ops.toList o = wantedBy G ops.toList o := by
  unfold wantedBy
  cases hg : o.guard with
  | none => rfl
  | some p =>
    obtain ⟨j, w⟩ := p
    simp only
    rw [getN_eq, Array.getElem?_toList]
    cases ho : ops[j]? with
    | none => rfl
    | some g =>
      simp only
      cases hd : g.dst with
      | none => rfl
      | some d => simp only; rw [h j w g d hg ho hd]

theorem looks_op {o : Oper} {t : Tmp} (h : Operand.tmp t ∈ o.op.operands.toList) : t ∈ o.looksAt ops :=
  List.mem_append_left _ (List.mem_filterMap.2 ⟨.tmp t, h, rfl⟩)

theorem looks_guard {o g : Oper} {j : Nat} {w : Bool} {d : Tmp} (h1 : o.guard = some (j, w)) (h2 : ops[j]? = some g) (h3 : g.dst = some d) : d ∈ o.looksAt ops := by
  unfold Oper.looksAt
  refine List.mem_append_right _ ?_
  simp [h1, h2, h3]

/-- A run as it is written, and what is known of it. -/
structure Sure (P : Program) (X : Ctx) (call : Call) (ops : Array Oper) (ps : List (Nat × Nat)) (Fs : Nat → Frm) (Hs : Nat → Heap) : Prop where
  plan : Planned X.tt ops ps
  ok : ∀ (i : Nat) (o : Oper), ops[i]? = some o → okOp o.op = true
  run : ∀ (i : Nat) (o : Oper), ops[i]? = some o → run1 X call ops.toList o (Fs i) (Hs i) = some (Fs (i + 1), Hs (i + 1))
  ask : ∀ (i p : Nat) (o : Oper), (i, p) ∈ ps → ops[i]? = some o → ∃ F', run1 X call ops.toList o (Fs i) (Hs p) = some (F', Hs p) ∧ ∀ t, o.dst = some t → F'.t.get t = (Fs (i + 1)).t.get t

section
variable {call : Call} {ps : List (Nat × Nat)} {Fs : Nat → Frm} {Hs : Nat → Heap} (hs : Sure P X call ops ps Fs Hs)
include hs

theorem Sure.up (hcall : CallOk P X call) {i : Nat} : ∀ (d : Nat), i + d ≤ ops.size → Up (Hs i) (Hs (i + d)) := by
  intro d
  induction d with
  | zero => intro _; exact Up.refl _
  | succ d ih =>
    intro h
    have := hs.run (i + d) ops[i + d] (Array.getElem?_eq_getElem (by omega))
    exact (ih (by omega)).trans (run1_up hcall this)

theorem Sure.next (hcall : CallOk P X call) {i j : Nat} (hij : i ≤ j) (hj : j ≤ ops.size) : (Hs i).next ≤ (Hs j).next := by
  have := (hs.up hcall (i := i) (j - i) (by omega)).1
  rwa [show i + (j - i) = j by omega] at this

theorem Sure.size : ∀ i, i ≤ ops.size → (Fs i).n = (Fs 0).n := by
  intro i
  induction i with
  | zero => intro _; rfl
  | succ i ih =>
    intro h
    rw [(run1_frame (hs.run i ops[i] (Array.getElem?_eq_getElem (by omega)))).1, ih (by omega)]

/-- A temporary that no operation of a stretch writes. -/
theorem Sure.still {t : Tmp} {i : Nat} : ∀ (d : Nat), i + d ≤ ops.size → (∀ j o, ops[j]? = some o → o.dst = some t → i ≤ j → j < i + d → False) → (Fs (i + d)).t.get t = (Fs i).t.get t := by
  intro d
  induction d with
  | zero => intro _ _; rfl
  | succ d ih =>
    intro h hno
    have hget : ops[i + d]? = some ops[i + d] := Array.getElem?_eq_getElem (by omega)
    have := (run1_frame (hs.run (i + d) _ hget)).2 t (fun e => hno _ _ hget e (by omega) (by omega))
    rw [show i + (d + 1) = i + d + 1 by omega, this]
    exact ih (by omega) (fun j o a b c e => hno j o a b c (by omega))

theorem Sure.same {t : Tmp} {i k : Nat} (hi : i ≤ ops.size) (hk : k ≤ ops.size) (h1 : ∀ j o, ops[j]? = some o → o.dst = some t → i ≤ j → j < k → False)
    (h2 : ∀ j o, ops[j]? = some o → o.dst = some t → k ≤ j → j < i → False) : (Fs k).t.get t = (Fs i).t.get t := by
  rcases Nat.le_total i k with h | h
  · have := hs.still (t := t) (i := i) (k - i) (by omega) (fun j o a b c d => h1 j o a b c (by omega))
    rwa [show i + (k - i) = k by omega] at this
  · have := hs.still (t := t) (i := k) (i - k) (by omega) (fun j o a b c d => h2 j o a b c (by omega))
    rw [show k + (i - k) = i by omega] at this
    exact this.symm
end

/-- The temporaries of a run in another order. -/
structure Temps (ops : Array Oper) (Fs : Nat → Frm) (S : Nat → Prop) (G : Frm) : Prop where
  n : G.n = (Fs 0).n
  at_ : ∀ t, ∃ k, k ≤ ops.size ∧ (∀ j o, ops[j]? = some o → o.dst = some t → (S j ↔ j < k)) ∧ G.t.get t = (Fs k).t.get t

/-- The memory of a run in another order: as it was ahead of operation c, and some new blocks. -/
structure Core (X : Ctx) (ops : Array Oper) (Hs : Nat → Heap) (S0 : Base) (m0 : Mu) (S : Nat → Prop) (m : Mu) (c : Nat) (w : World) : Prop where
  le : c ≤ ops.size
  wr : ∀ j o, ops[j]? = some o → cls X.tt o.op = .w → (S j ↔ j < c)
  made : ∀ j o, ops[j]? = some o → cls X.tt o.op = .a → j < c → S j
  rel : Rel S0 m (Hs c) w
  pend : ∀ j o B, ops[j]? = some o → cls X.tt o.op = .a → S j → c ≤ j → Hs (j + 1) = (Hs j).alloc B → ∃ L, Made S0 m w (Hs j).next B L ∧ ∀ b Bb Lb, (Hs c).get b = some Bb → m b = some Lb → Lb.blk ≠ L.blk
  dist : ∀ j o B j' o' B' L L', ops[j]? = some o → cls X.tt o.op = .a → S j → c ≤ j → Hs (j + 1) = (Hs j).alloc B → ops[j']? = some o' → cls X.tt o'.op = .a → S j' → c ≤ j' → Hs (j' + 1) = (Hs j').alloc B' →
    j ≠ j' → m (Hs j).next = some L → m (Hs j').next = some L' → L.blk ≠ L'.blk
  ids : ∀ b, (Hs 0).next ≤ b → b < (Hs ops.size).next → m b ≠ none → b < (Hs c).next ∨ ∃ j o B, ops[j]? = some o ∧ cls X.tt o.op = .a ∧ S j ∧ c ≤ j ∧ Hs (j + 1) = (Hs j).alloc B ∧ b = (Hs j).next
  mu : m0.le m
  out : ∀ b, (b < (Hs 0).next ∨ (Hs ops.size).next ≤ b) → m b = m0 b

section
variable {call : Call} {ps : List (Nat × Nat)} {Fs : Nat → Frm} {Hs : Nat → Heap} {S0 : Base} {m0 m : Mu} {S : Nat → Prop} {c : Nat} {w : World}

/-- What was made ahead of its time comes to be in time. -/
theorem Core.next (hs : Sure P X call ops ps Fs Hs) (hcall : CallOk P X call) (h : Core X ops Hs S0 m0 S m c w) {o : Oper} (ho : ops[c]? = some o) (hw : cls X.tt o.op ≠ .w) (ha : cls X.tt o.op = .a → S c) : Core X ops Hs S0 m0 S m (c + 1) w := by
  have hlt : c < ops.size := by
    rcases Nat.lt_or_ge c ops.size with h' | h'
    · exact h'
    · rw [Array.getElem?_eq_none h'] at ho; cases ho
  have hrun := hs.run c o ho
  have hup := (run1_up hcall hrun).1
  have wr' : ∀ j o, ops[j]? = some o → cls X.tt o.op = .w → (S j ↔ j < c + 1) := by
    intro j oj hj hcj
    have : j ≠ c := by rintro rfl; rw [ho] at hj; cases hj; exact hw hcj
    rw [h.wr j oj hj hcj]; omega
  have mk' : ∀ j o, ops[j]? = some o → cls X.tt o.op = .a → j < c + 1 → S j := by
    intro j oj hj hcj hlt'
    by_cases e : j = c
    · subst e; rw [ho] at hj; cases hj; exact ha hcj
    · exact h.made j oj hj hcj (by omega)
  have same : Hs (c + 1) = Hs c → (∀ B, Hs (c + 1) ≠ (Hs c).alloc B) → Core X ops Hs S0 m0 S m (c + 1) w := by
    intro e hne
    refine ⟨by omega, wr', mk', by rw [e]; exact h.rel, ?_, ?_, ?_, h.mu, h.out⟩
    · intro j oj B a1 a2 a3 a4 a5
      rw [e]; exact h.pend j oj B a1 a2 a3 (by omega) a5
    · intro j oj B j' oj' B' L L' a1 a2 a3 a4 a5 b1 b2 b3 b4 b5
      exact h.dist j oj B j' oj' B' L L' a1 a2 a3 (by omega) a5 b1 b2 b3 (by omega) b5
    · intro b q1 q2 q3
      rcases h.ids b q1 q2 q3 with h' | ⟨j, oj, B, a1, a2, a3, a4, a5, a6⟩
      · left; rw [e]; exact h'
      · by_cases ej : j = c
        · subst ej; exact absurd a5 (hne B)
        · exact .inr ⟨j, oj, B, a1, a2, a3, by omega, a5, a6⟩
  cases hcl : cls X.tt o.op with
  | w => exact absurd hcl hw
  | p =>
    have e := run1_quiet (X := X) (.inl hcl) hrun
    refine same e (fun B hB => ?_)
    have := congrArg Heap.next (e.symm.trans hB)
    simp at this
  | r =>
    have e := run1_quiet (X := X) (.inr hcl) hrun
    refine same e (fun B hB => ?_)
    have := congrArg Heap.next (e.symm.trans hB)
    simp at this
  | a =>
    rcases run1_a hcl hrun with ⟨-, e⟩ | ⟨B, e⟩
    · refine same e (fun B hB => ?_)
      have := congrArg Heap.next (e.symm.trans hB)
      simp at this
    · have hS := ha hcl
      obtain ⟨L, hm, hne⟩ := h.pend c o B ho hcl hS (Nat.le_refl _) e
      refine ⟨by omega, wr', mk', by rw [e]; exact h.rel.absorb hm hne, ?_, ?_, ?_, h.mu, h.out⟩
      · intro j oj B' a1 a2 a3 a4 a5
        obtain ⟨L', hm', hne'⟩ := h.pend j oj B' a1 a2 a3 (by omega) a5
        refine ⟨L', hm', ?_⟩
        intro b Bb Lb hb hmb
        rw [e, Heap.get_alloc] at hb
        split at hb
        · rename_i eb
          subst eb
          exact h.dist c o B j oj B' Lb L' ho hcl hS (Nat.le_refl _) e a1 a2 a3 (by omega) a5 (by omega) hmb hm'.at_
        · exact hne' b Bb Lb hb hmb
      · intro j oj B1 j' oj' B' L1 L' a1 a2 a3 a4 a5 b1 b2 b3 b4 b5
        exact h.dist j oj B1 j' oj' B' L1 L' a1 a2 a3 (by omega) a5 b1 b2 b3 (by omega) b5
      · intro b q1 q2 q3
        rcases h.ids b q1 q2 q3 with h' | ⟨j, oj, B', a1, a2, a3, a4, a5, a6⟩
        · left; omega
        · by_cases ej : j = c
          · subst ej
            left
            rw [e, Heap.next_alloc]; omega
          · exact .inr ⟨j, oj, B', a1, a2, a3, by omega, a5, a6⟩

theorem Core.upTo (hs : Sure P X call ops ps Fs Hs) (hcall : CallOk P X call) : ∀ (d c : Nat), Core X ops Hs S0 m0 S m c w → c + d ≤ ops.size →
    (∀ j o, ops[j]? = some o → c ≤ j → j < c + d → cls X.tt o.op ≠ .w ∧ (cls X.tt o.op = .a → S j)) → Core X ops Hs S0 m0 S m (c + d) w := by
  intro d
  induction d with
  | zero => intro c h _ _; exact h
  | succ d ih =>
    intro c h hle hall
    have ho : ops[c]? = some ops[c] := Array.getElem?_eq_getElem (by omega)
    obtain ⟨h1, h2⟩ := hall c _ ho (Nat.le_refl _) (by omega)
    have := ih (c + 1) (h.next hs hcall ho h1 h2) (by omega) (fun j o a b d => hall j o a (by omega) (by omega))
    rwa [show c + 1 + d = c + (d + 1) by omega] at this

theorem Core.to (hs : Sure P X call ops ps Fs Hs) (hcall : CallOk P X call) {d : Nat} (h : Core X ops Hs S0 m0 S m c w) (hcd : c ≤ d) (hd : d ≤ ops.size)
    (hall : ∀ j o, ops[j]? = some o → c ≤ j → j < d → cls X.tt o.op ≠ .w ∧ (cls X.tt o.op = .a → S j)) : Core X ops Hs S0 m0 S m d w := by
  have := Core.upTo hs hcall (d - c) c h (by omega) (fun j o a b e => hall j o a b (by omega))
  rwa [show c + (d - c) = d by omega] at this
end

/-- One more. -/
def Plus (S : Nat → Prop) (i : Nat) : Nat → Prop := fun j => S j ∨ j = i

section
variable {call : Call} {ps : List (Nat × Nat)} {Fs : Nat → Frm} {Hs : Nat → Heap} {S0 : Base} {m0 m : Mu} {S : Nat → Prop} {c : Nat} {w : World} {i : Nat} {o : Oper} {G : Frm}

/-- The operation finds what it looks at. -/
theorem Temps.looks (hs : Sure P X call ops ps Fs Hs) (hS : Closed ops S) (hS' : Closed ops (Plus S i)) (ho : ops[i]? = some o) (hi : ¬ S i) (h : Temps ops Fs S G) {t : Tmp} (ht : t ∈ o.looksAt ops) : G.t.get t = (Fs i).t.get t := by
  obtain ⟨k, hk, hw, he⟩ := h.at_ t
  have hlt : i < ops.size := by
    rcases Nat.lt_or_ge i ops.size with h' | h'
    · exact h'
    · rw [Array.getElem?_eq_none h'] at ho; cases ho
  rw [he]
  refine hs.same (by omega) hk ?_ ?_
  · intro j oj hj hd h1 h2
    have hSj : S j := (hw j oj hj hd).2 h2
    have hne : j ≠ i := by rintro rfl; exact hi hSj
    rcases hs.plan.pair i j o oj ho hj (by omega) with h' | h'
    · exact hi (h'.closed hS hSj)
    · simp only [freePair, Bool.and_eq_true] at h'
      exact (Oper.apart_spec h'.1).2.2 t hd ht
  · intro j oj hj hd h1 h2
    have hSj : ¬ S j := fun h' => by have := (hw j oj hj hd).1 h'; omega
    rcases hs.plan.pair j i oj o hj ho h2 with h' | h'
    · rcases h'.closed hS' (.inr rfl) with h3 | h3
      · exact hSj h3
      · omega
    · simp only [freePair, Bool.and_eq_true] at h'
      exact (Oper.apart_spec h'.1).1 t hd ht

theorem Temps.evals (hs : Sure P X call ops ps Fs Hs) (hS : Closed ops S) (hS' : Closed ops (Plus S i)) (ho : ops[i]? = some o) (hi : ¬ S i) (h : Temps ops Fs S G) :
    G.n = (Fs i).n ∧ (∀ x ∈ o.op.operands.toList, (Fs i).eval x = G.eval x) ∧ wantedBy (Fs i) ops.toList o = wantedBy G ops.toList o := by
  have hlt : i < ops.size := by
    rcases Nat.lt_or_ge i ops.size with h' | h'
    · exact h'
    · rw [Array.getElem?_eq_none h'] at ho; cases ho
  refine ⟨by rw [h.n, hs.size i (by omega)], ?_, ?_⟩
  · intro x hx
    refine eval_get fun t e => ?_
    subst e
    exact h.looks hs hS hS' ho hi (looks_op hx)
  · refine wantedBy_get fun j w g d h1 h2 h3 => ?_
    exact h.looks hs hS hS' ho hi (looks_guard h1 h2 h3)

theorem Temps.put (hs : Sure P X call ops ps Fs Hs) (hS : Closed ops S) (hS' : Closed ops (Plus S i)) (ho : ops[i]? = some o) (hi : ¬ S i) (h : Temps ops Fs S G) {G' : Frm} (hn : G'.n = G.n)
    (h1 : ∀ t, o.dst ≠ some t → G'.t.get t = G.t.get t) (h2 : ∀ t, o.dst = some t → G'.t.get t = (Fs (i + 1)).t.get t) : Temps ops Fs (Plus S i) G' := by
  have hlt : i < ops.size := by
    rcases Nat.lt_or_ge i ops.size with h' | h'
    · exact h'
    · rw [Array.getElem?_eq_none h'] at ho; cases ho
  refine ⟨by rw [hn, h.n], fun t => ?_⟩
  by_cases hd : o.dst = some t
  · refine ⟨i + 1, by omega, ?_, h2 t hd⟩
    intro j oj hj hdj
    constructor
    · rintro (hSj | rfl)
      · rcases Nat.lt_trichotomy j i with h' | h' | h'
        · omega
        · omega
        · exfalso
          rcases hs.plan.pair i j o oj ho hj h' with h3 | h3
          · exact hi (h3.closed hS hSj)
          · simp only [freePair, Bool.and_eq_true] at h3
            exact (Oper.apart_spec h3.1).2.1 t hd hdj
      · omega
    · intro hji
      by_cases e : j = i
      · exact .inr e
      · rcases hs.plan.pair j i oj o hj ho (by omega) with h3 | h3
        · exact h3.closed hS' (.inr rfl)
        · simp only [freePair, Bool.and_eq_true] at h3
          exact absurd hd ((Oper.apart_spec h3.1).2.1 t hdj)
  · obtain ⟨k, hk, hw, he⟩ := h.at_ t
    refine ⟨k, hk, ?_, by rw [h1 t hd, he]⟩
    intro j oj hj hdj
    rw [← hw j oj hj hdj]
    constructor
    · rintro (h' | rfl)
      · exact h'
      · rw [ho] at hj; cases hj; exact absurd hdj hd
    · exact .inl

/-- An operation that neither writes nor makes. -/
theorem Core.plus (h : Core X ops Hs S0 m0 S m c w) (ho : ops[i]? = some o) (hc : cls X.tt o.op = .p ∨ cls X.tt o.op = .r) : Core X ops Hs S0 m0 (Plus S i) m c w := by
  have hne : ∀ j oj, ops[j]? = some oj → (cls X.tt oj.op = .w ∨ cls X.tt oj.op = .a) → (Plus S i j ↔ S j) := by
    intro j oj hj hcj
    constructor
    · rintro (h' | rfl)
      · exact h'
      · rw [ho] at hj; cases hj
        rcases hc with hc | hc <;> rcases hcj with hcj | hcj <;> rw [hc] at hcj <;> cases hcj
    · exact .inl
  refine ⟨h.le, fun j oj a b => by rw [hne j oj a (.inl b)]; exact h.wr j oj a b, fun j oj a b d => .inl (h.made j oj a b d), h.rel, ?_, ?_, ?_, h.mu, h.out⟩
  · intro j oj B a1 a2 a3 a4 a5
    exact h.pend j oj B a1 a2 ((hne j oj a1 (.inr a2)).1 a3) a4 a5
  · intro j oj B j' oj' B' L L' a1 a2 a3 a4 a5 b1 b2 b3 b4 b5
    exact h.dist j oj B j' oj' B' L L' a1 a2 ((hne j oj a1 (.inr a2)).1 a3) a4 a5 b1 b2 ((hne j' oj' b1 (.inr b2)).1 b3) b4 b5
  · intro b q1 q2 q3
    rcases h.ids b q1 q2 q3 with h' | ⟨j, oj, B, a1, a2, a3, a4, a5, a6⟩
    · exact .inl h'
    · exact .inr ⟨j, oj, B, a1, a2, .inl a3, a4, a5, a6⟩
end
end
end Ev
end Go.Proofs.Ytglkgmomnbdkoaa
