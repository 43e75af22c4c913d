/- Regions that draw their order: one step, all steps; and the evaluator's soundness. -/
import Derived.Test.YtglkgmomnbdkoaaEv16
namespace Go.Proofs.Ytglkgmomnbdkoaa
namespace Ev

section
variable {P : Program} {X : Ctx} {ops : Array Oper}

/-- The state of a run in another order. -/
def Inv (X : Ctx) (ops : Array Oper) (Fs : Nat → Frm) (Hs : Nat → Heap) (S0 : Base) (m0 : Mu) (df : List Deferred) (S : Nat → Prop) (a : Act) (w : World) : Prop :=
  ∃ G m c, Closed ops S ∧ Temps ops Fs S G ∧ RelF m G a.tmps ∧ a.defers = df ∧ Core X ops Hs S0 m0 S m c w ∧ (c = 0 ∨ ∃ o, ops[c - 1]? = some o ∧ cls X.tt o.op = .w)

theorem ext_whole {S : Base} {m : Mu} {H : Heap} {w : World} (hext : ExtOk X S) (hr : Rel S m H w) : ExtOk X (whole w) :=
  ⟨fun b o v hv => by
    obtain ⟨hk, v', h1, h2⟩ := hext.ext b o v hv
    have := hr.kept b hk
    refine ⟨this.1, v', ?_, h2⟩
    rw [← h1]
    simp only [whole, World.cell?, this.2]⟩

section
variable {call : Call} {ps : List (Nat × Nat)} {Fs : Nat → Frm} {Hs : Nat → Heap} {S0 : Base} {m0 m : Mu} {S : Nat → Prop} {c : Nat} {w : World} {i : Nat} {o : Oper} {G : Frm} {a : Act} {df : List Deferred}

theorem lt_of_get (ho : ops[i]? = some o) : i < ops.size := by
  rcases Nat.lt_or_ge i ops.size with h' | h'
  · exact h'
  · rw [Array.getElem?_eq_none h'] at ho; cases ho

/-- Writers and makers behind a writer wait for it; what writes waits for the writers and makers ahead of it. -/
theorem Sure.waits (hs : Sure P X call ops ps Fs Hs) {j : Nat} {oj : Oper} (hj : ops[j]? = some oj) (ho : ops[i]? = some o) (hji : j < i) (hc : cls X.tt oj.op = .a ∨ cls X.tt oj.op = .w) (hw : cls X.tt o.op = .w) : Ord ops j i := by
  rcases hs.plan.pair j i oj o hj ho hji with h | h
  · exact h
  · simp only [freePair, Bool.and_eq_true] at h
    have h2 := h.2
    rw [hw] at h2
    rcases hc with hc | hc <;> rw [hc] at h2 <;> cases h2

theorem plus_closed (hS : Closed ops S) (ho : ops[i]? = some o) (he : ∀ e ∈ o.after.toList, Region.binds .any e = true → S e.on) : Closed ops (Plus S i) := by
  rintro j oj hj (h | rfl) e hmem hb
  · exact .inl (hS j oj hj h e hmem hb)
  · rw [ho] at hj; cases hj
    exact .inl (he e hmem hb)

/-- A reader's turn. -/
theorem Core.reads (hs : Sure P X call ops ps Fs Hs) (hcall : CallOk P X call) (hS : Closed ops S) (hS' : Closed ops (Plus S i)) (ho : ops[i]? = some o) (hi : ¬ S i) (hc : cls X.tt o.op = .r)
    (h : Core X ops Hs S0 m0 S m c w) (hl : c = 0 ∨ ∃ o, ops[c - 1]? = some o ∧ cls X.tt o.op = .w) :
    ∃ d F', Rel S0 m (Hs d) w ∧ run1 X call ops.toList o (Fs i) (Hs d) = some (F', Hs d) ∧ ∀ t, o.dst = some t → F'.t.get t = (Fs (i + 1)).t.get t := by
  have hlt := lt_of_get ho
  have last : c ≠ 0 → ∃ oc, ops[c - 1]? = some oc ∧ cls X.tt oc.op = .w := fun h0 => hl.elim (fun e => absurd e h0) id
  have ordS : ∀ j, Ord ops j i → j ≠ i → S j := by
    intro j hj hne
    rcases hj.closed hS' (.inr rfl) with h' | h'
    · exact h'
    · exact absurd h' hne
  by_cases hci : i < c
  · obtain ⟨oc, g1, g2⟩ := last (by omega)
    have hSc : S (c - 1) := (h.wr _ _ g1 g2).2 (by omega)
    have hne : i ≠ c - 1 := by intro e; rw [← e] at hSc; exact hi hSc
    have hp := hs.plan.ask1 i (c - 1) o oc ho g1 hc g2 hne (fun h' => by omega) (fun _ h' => hi (h'.closed hS hSc))
    rw [show c - 1 + 1 = c by omega] at hp
    obtain ⟨F', r1, r2⟩ := hs.ask i c o hp ho
    exact ⟨c, F', h.rel, r1, r2⟩
  · by_cases hB : c ≠ 0 ∧ ¬ Ord ops (c - 1) i
    · obtain ⟨oc, g1, g2⟩ := last hB.1
      have hp := hs.plan.ask1 i (c - 1) o oc ho g1 hc g2 (by omega) (fun _ => hB.2) (fun h' => by omega)
      rw [show c - 1 + 1 = c by omega] at hp
      obtain ⟨F', r1, r2⟩ := hs.ask i c o hp ho
      exact ⟨c, F', h.rel, r1, r2⟩
    · by_cases hex : ∃ j oj, ops[j]? = some oj ∧ c ≤ j ∧ j < i ∧ (cls X.tt oj.op = .a ∨ cls X.tt oj.op = .w) ∧ ¬ Ord ops j i
      · obtain ⟨j, oj, hj, hcj, hji, hclj, hno⟩ := hex
        obtain ⟨j0, hj0, hp, ⟨z, hz, hzc, hzn⟩, hall⟩ := hs.plan.ask2 i j o oj ho hj hc hclj hji hno
        have hc0 : c ≤ j0 := by
          rcases Nat.lt_or_ge j0 c with h' | h'
          · exfalso
            obtain ⟨oc, g1, g2⟩ := last (by omega)
            have hoc : Ord ops (c - 1) i := Classical.byContradiction fun hn => hB ⟨by omega, hn⟩
            rcases Nat.lt_or_ge j0 (c - 1) with h2 | h2
            · exact hzn (hs.plan.trans _ _ _ (hs.waits hz g1 h2 hzc g2) hoc)
            · rw [show j0 = c - 1 by omega] at hzn; exact hzn hoc
          · exact h'
        have hcore := h.to hs hcall hc0 (by omega) (fun t ot hot q1 q2 => by
          have hord : cls X.tt ot.op = .a ∨ cls X.tt ot.op = .w → S t := fun hcl => ordS t (hall t ot q2 hot hcl) (by omega)
          refine ⟨fun hw => ?_, fun ha => hord (.inl ha)⟩
          have := (h.wr t ot hot hw).1 (hord (.inr hw))
          omega)
        obtain ⟨F', r1, r2⟩ := hs.ask i j0 o hp ho
        exact ⟨j0, F', hcore.rel, r1, r2⟩
      · have hcore := h.to hs hcall (by omega : c ≤ i) (by omega) (fun t ot hot q1 q2 => by
          have hord : cls X.tt ot.op = .a ∨ cls X.tt ot.op = .w → S t := fun hcl =>
            ordS t (Classical.byContradiction fun hn => hex ⟨t, ot, hot, q1, q2, hcl, hn⟩) (by omega)
          refine ⟨fun hw => ?_, fun ha => hord (.inl ha)⟩
          have := (h.wr t ot hot hw).1 (hord (.inr hw))
          omega)
        refine ⟨i, Fs (i + 1), hcore.rel, ?_, fun _ _ => rfl⟩
        have hrun := hs.run i o ho
        rwa [run1_quiet (X := X) (.inr hc) hrun] at hrun

/-- One operation of a run in another order. -/
theorem Inv.step (htie : Tied P X) (hzero : ZeroOk X) (hcall : CallOk P X call) (hext : ExtOk X S0) (hs : Sure P X call ops ps Fs Hs) (h : Inv X ops Fs Hs S0 m0 df S a w)
    (ho : ops[i]? = some o) (hi : ¬ S i) (he : ∀ e ∈ o.after.toList, Region.binds .any e = true → S e.on)
    {next : Act → World → Prop} {Q : Exit → Act → World → Prop} (hn : ∀ a' w', Inv X ops Fs Hs S0 m0 df (Plus S i) a' w' → next a' w') : wpOp P ops Q i next a w := by
  obtain ⟨G, m, c, hS, hT, hF, hdf, hC, hl⟩ := h
  have hS' := plus_closed hS ho he
  have hlt := lt_of_get ho
  have hok := hs.ok i o ho
  have hrun := hs.run i o ho
  obtain ⟨e1, e2, e3⟩ := hT.evals hs hS hS' ho hi
  have ordS : ∀ j, Ord ops j i → j ≠ i → S j := by
    intro j hj hne
    rcases hj.closed hS' (.inr rfl) with h' | h'
    · exact h'
    · exact absurd h' hne
  have last : c ≠ 0 → ∃ oc, ops[c - 1]? = some oc ∧ cls X.tt oc.op = .w := fun h0 => hl.elim (fun e => absurd e h0) id
  cases hcl : cls X.tt o.op with
  | p =>
    obtain ⟨G', r1, r2, r3, r4⟩ := run1_congr e1 e2 e3 (run1_p hcl hrun (Hs c))
    refine wpOp_quiet htie hzero hext hC.rel hF ho hok (.inl hcl) r1 ?_
    intro a' q1 q2
    exact hn a' w ⟨G', m, c, hS', hT.put hs hS hS' ho hi r2 r3 r4, q1, q2.trans hdf, hC.plus ho (.inl hcl), hl⟩
  | r =>
    obtain ⟨d, F', hrd, s1, s2⟩ := hC.reads hs hcall hS hS' ho hi hcl hl
    obtain ⟨G', r1, r2, r3, r4⟩ := run1_congr e1 e2 e3 s1
    refine wpOp_quiet htie hzero hext hrd hF ho hok (.inr hcl) r1 ?_
    intro a' q1 q2
    exact hn a' w ⟨G', m, c, hS', hT.put hs hS hS' ho hi r2 r3 (fun t e => (r4 t e).trans (s2 t e)), q1, q2.trans hdf, hC.plus ho (.inr hcl), hl⟩
  | a =>
    obtain ⟨G', r1, r2, r3, r4⟩ := run1_congr e1 e2 e3 hrun
    have hci : c ≤ i := by
      rcases Nat.lt_or_ge i c with h' | h'
      · exfalso
        obtain ⟨oc, g1, g2⟩ := last (by omega)
        have hSc : S (c - 1) := (hC.wr _ _ g1 g2).2 (by omega)
        have hne : i ≠ c - 1 := by intro e; rw [← e] at hSc; exact hi hSc
        exact hi ((hs.waits ho g1 (by omega) (.inl hcl) g2).closed hS hSc)
      · exact h'
    have nci := hs.next hcall hci (by omega)
    have n0i := hs.next hcall (Nat.zero_le i) (by omega)
    have nin := hs.next hcall (show i + 1 ≤ ops.size by omega) (Nat.le_refl _)
    have notold : ∀ j oj B, ops[j]? = some oj → S j → Hs (j + 1) = (Hs j).alloc B → (Hs (i + 1)).next = (Hs i).next + 1 → (Hs j).next ≠ (Hs i).next := by
      intro j oj B hj hSj hB hi1 e
      have hlj := lt_of_get hj
      have hne : j ≠ i := by rintro rfl; exact hi hSj
      have nj : (Hs (j + 1)).next = (Hs j).next + 1 := by rw [hB]; rfl
      rcases Nat.lt_or_ge j i with h' | h'
      · have := hs.next hcall (show j + 1 ≤ i by omega) (by omega); omega
      · have := hs.next hcall (show i + 1 ≤ j by omega) (by omega); omega
    have hnone : ∀ B, Hs (i + 1) = (Hs i).alloc B → m (Hs i).next = none := by
      intro B hB
      have hi1 : (Hs (i + 1)).next = (Hs i).next + 1 := by rw [hB]; rfl
      apply Classical.byContradiction
      intro hm
      rcases hC.ids (Hs i).next n0i (by omega) hm with h' | ⟨j, oj, B', a1, a2, a3, a4, a5, a6⟩
      · omega
      · exact notold j oj B' a1 a3 a5 hi1 a6.symm
    refine wpOp_make htie hzero hcall hC.rel.bound hF (ext_whole hext hC.rel) ho hok hcl r1 hnone ?_
    intro m' a' w' q1 q2 q3 q4 q5 q6 q7 q8 q9 q10 q11 q12
    refine hn a' w' ⟨G', m', c, hS', hT.put hs hS hS' ho hi r2 r3 r4, q3, q4.trans hdf, ?_, hl⟩
    have keep : ∀ b L, m b = some L → w'.heap[L.blk]? = w.heap[L.blk]? := fun b L hb => q5 _ (hC.rel.bound b L hb)
    have plusS : ∀ j, Plus S i j → j ≠ i → S j := fun j h' hne => h'.elim id (fun e => absurd e hne)
    -- what is made now
    have fresh : ∀ B, Hs (i + 1) = (Hs i).alloc B → ∃ L, m' (Hs i).next = some L ∧ BR m' w' B L ∧ w.heap.size ≤ L.blk := q11
    have oldm : ∀ b L, m' b = some L → L.blk < w.heap.size → m b = some L := by
      intro b L hb hlt
      by_cases eb : b = (Hs i).next
      · subst eb
        rcases run1_a hcl hrun with ⟨-, e⟩ | ⟨B, e⟩
        · obtain ⟨rfl, -⟩ := q12 e; exact hb
        · obtain ⟨L', g1, -, g3⟩ := fresh B e
          rw [g1] at hb; cases hb; omega
      · rw [← q2 b eb]; exact hb
    refine ⟨hC.le, ?_, ?_, hC.rel.still q1 q5 q6 q7 q8 q9 q10, ?_, ?_, ?_, Mu.le_trans hC.mu q1, ?_⟩
    · intro j oj hj hcj
      have hne : j ≠ i := by rintro rfl; rw [ho] at hj; cases hj; rw [hcl] at hcj; cases hcj
      rw [← hC.wr j oj hj hcj]
      exact ⟨fun h' => plusS j h' hne, .inl⟩
    · intro j oj hj hcj hjc
      exact .inl (hC.made j oj hj hcj hjc)
    · intro j oj B hj hcj hSj hcj2 hB
      by_cases hji : j = i
      · subst hji
        obtain ⟨L, g1, g2, g3⟩ := fresh B hB
        refine ⟨L, ⟨g1, g2, fun hk => ?_⟩, ?_⟩
        · have := (hC.rel.kept _ hk).1; omega
        · intro b Bb Lb hb hmb
          obtain ⟨L2, k1, -⟩ := hC.rel.alive b Bb hb
          have := q1 _ _ k1
          rw [hmb] at this; cases this
          have := hC.rel.bound _ _ k1; omega
      · obtain ⟨L, hm, hne⟩ := hC.pend j oj B hj hcj (plusS j hSj hji) hcj2 hB
        refine ⟨L, hm.still q1 (keep _ _ hm.at_), ?_⟩
        intro b Bb Lb hb hmb
        obtain ⟨L2, k1, -⟩ := hC.rel.alive b Bb hb
        have := q1 _ _ k1
        rw [hmb] at this; cases this
        exact hne b Bb _ hb k1
    · intro j oj B j' oj' B' L L' a1 a2 a3 a4 a5 b1 b2 b3 b4 b5 hne hm hm'
      by_cases hji : j = i
      · subst hji
        obtain ⟨L2, g1, -, g3⟩ := fresh B a5
        rw [hm] at g1; cases g1
        obtain ⟨L3, k1, -⟩ := hC.pend j' oj' B' b1 b2 (plusS j' b3 (by omega)) b4 b5
        have h3 := q1 _ _ k1.at_
        rw [hm'] at h3; cases h3
        have := hC.rel.bound _ _ k1.at_; omega
      · by_cases hji' : j' = i
        · subst hji'
          obtain ⟨L2, g1, -, g3⟩ := fresh B' b5
          rw [hm'] at g1; cases g1
          obtain ⟨L3, k1, -⟩ := hC.pend j oj B a1 a2 (plusS j a3 hji) a4 a5
          have h3 := q1 _ _ k1.at_
          rw [hm] at h3; cases h3
          have := hC.rel.bound _ _ k1.at_; omega
        · obtain ⟨L3, k1, -⟩ := hC.pend j oj B a1 a2 (plusS j a3 hji) a4 a5
          obtain ⟨L4, k2, -⟩ := hC.pend j' oj' B' b1 b2 (plusS j' b3 hji') b4 b5
          have h3 := q1 _ _ k1.at_
          have h4 := q1 _ _ k2.at_
          rw [hm] at h3; cases h3
          rw [hm'] at h4; cases h4
          exact hC.dist j oj B j' oj' B' L L' a1 a2 (plusS j a3 hji) a4 a5 b1 b2 (plusS j' b3 hji') b4 b5 hne k1.at_ k2.at_
    · intro b g1 g2 g3
      by_cases eb : b = (Hs i).next
      · rcases run1_a hcl hrun with ⟨-, e⟩ | ⟨B, e⟩
        · obtain ⟨rfl, -⟩ := q12 e
          rcases hC.ids b g1 g2 g3 with h' | ⟨j, oj, B, a1, a2, a3, a4, a5, a6⟩
          · exact .inl h'
          · exact .inr ⟨j, oj, B, a1, a2, .inl a3, a4, a5, a6⟩
        · exact .inr ⟨i, o, B, ho, hcl, .inr rfl, hci, e, eb⟩
      · rw [q2 b eb] at g3
        rcases hC.ids b g1 g2 g3 with h' | ⟨j, oj, B, a1, a2, a3, a4, a5, a6⟩
        · exact .inl h'
        · exact .inr ⟨j, oj, B, a1, a2, .inl a3, a4, a5, a6⟩
    · intro b hb
      by_cases eb : b = (Hs i).next
      · rcases run1_a hcl hrun with ⟨-, e⟩ | ⟨B, e⟩
        · obtain ⟨rfl, -⟩ := q12 e; exact hC.out b hb
        · have hi1 : (Hs (i + 1)).next = (Hs i).next + 1 := by rw [e]; rfl
          omega
      · rw [q2 b eb]; exact hC.out b hb
  | w =>
    obtain ⟨G', r1, r2, r3, r4⟩ := run1_congr e1 e2 e3 hrun
    have hci : c ≤ i := by
      rcases Nat.lt_or_ge i c with h' | h'
      · exact absurd ((hC.wr i o ho hcl).2 h') hi
      · exact h'
    have hCi := hC.to hs hcall hci (by omega) (fun t ot hot q1 q2 => by
      have hord : cls X.tt ot.op = .a ∨ cls X.tt ot.op = .w → S t := fun hc => ordS t (hs.waits hot ho q2 hc hcl) (by omega)
      refine ⟨fun hw => ?_, fun ha => hord (.inl ha)⟩
      have := (hC.wr t ot hot hw).1 (hord (.inr hw))
      omega)
    clear hC hl last
    have n0i := hs.next hcall (Nat.zero_le i) (by omega)
    have nii := hs.next hcall (show i ≤ i + 1 by omega) (by omega)
    have nin := hs.next hcall (show i + 1 ≤ ops.size by omega) (Nat.le_refl _)
    let D : Nat → Prop := fun b => ∃ j oj B L, ops[j]? = some oj ∧ cls X.tt oj.op = .a ∧ S j ∧ i ≤ j ∧ Hs (j + 1) = (Hs j).alloc B ∧ m (Hs j).next = some L ∧ b = L.blk
    have hD : Rel (S0.also w D) m (Hs i) w := by
      refine hCi.rel.also ?_ ?_
      · rintro b ⟨j, oj, B, L, -, -, -, -, -, hm, rfl⟩
        exact hCi.rel.bound _ _ hm
      · rintro b Bb Lb hb hmb ⟨j, oj, B, L, a1, a2, a3, a4, a5, hm, e⟩
        obtain ⟨L', k1, k2⟩ := hCi.pend j oj B a1 a2 a3 a4 a5
        have k3 := k1.at_
        rw [hm] at k3
        cases k3
        exact k2 b Bb Lb hb hmb e
    have later : ∀ j oj, ops[j]? = some oj → cls X.tt oj.op = .a → S j → i ≤ j → i + 1 ≤ j := by
      intro j oj hj hcj hSj hij
      have : j ≠ i := by rintro rfl; exact hi hSj
      omega
    have hfree : Free (Hs i) (Hs (i + 1)) m := by
      intro b g1 g2
      apply Classical.byContradiction
      intro hm
      rcases hCi.ids b (by omega) (by omega) hm with h' | ⟨j, oj, B, a1, a2, a3, a4, a5, a6⟩
      · omega
      · have := hs.next hcall (later j oj a1 a2 a3 a4) (by have := lt_of_get a1; omega); omega
    refine run1_ok htie hzero hcall (hext.also hCi.rel D) hD hfree hF ho hok r1 ?_
    intro m' a' w' q1 q2 q3 q4
    have hne : ∀ j oj, ops[j]? = some oj → cls X.tt oj.op = .a → Plus S i j → S j := by
      rintro j oj hj hcj (h' | rfl)
      · exact h'
      · rw [ho] at hj; cases hj; rw [hcl] at hcj; cases hcj
    refine hn a' w' ⟨G', m', i + 1, hS', hT.put hs hS hS' ho hi r2 r3 r4, q2, q3.trans hdf, ?_, .inr ⟨o, ho, hcl⟩⟩
    refine ⟨by omega, ?_, ?_, hCi.rel.only q4, ?_, ?_, ?_, Mu.le_trans hCi.mu q1.le, ?_⟩
    · intro j oj hj hcj
      by_cases hji : j = i
      · subst hji; exact ⟨fun _ => by omega, fun _ => .inr rfl⟩
      · have := hCi.wr j oj hj hcj
        constructor
        · rintro (h' | h')
          · have := this.1 h'; omega
          · omega
        · intro h'; exact .inl (this.2 (by omega))
    · intro j oj hj hcj hji
      have hne' : j ≠ i := by rintro rfl; rw [ho] at hj; cases hj; rw [hcl] at hcj; cases hcj
      exact .inl (hCi.made j oj hj hcj (by omega))
    · intro j oj B hj hcj hSj hij hB
      have hSj' := hne j oj hj hcj hSj
      obtain ⟨L, k1, k2⟩ := hCi.pend j oj B hj hcj hSj' (by omega) hB
      have hDL : D L.blk := ⟨j, oj, B, L, hj, hcj, hSj', by omega, hB, k1.at_, rfl⟩
      refine ⟨L, k1.still q1.le (q4.kept L.blk (.inr hDL)).2, ?_⟩
      intro b Bb Lb hb hmb e
      exact q4.open_ b Bb Lb hb hmb (.inr (by rw [e]; exact hDL))
    · intro j oj B j' oj' B' L L' a1 a2 a3 a4 a5 b1 b2 b3 b4 b5 hne2 hm hm'
      have hSj := hne j oj a1 a2 a3
      have hSj' := hne j' oj' b1 b2 b3
      obtain ⟨L3, k1, -⟩ := hCi.pend j oj B a1 a2 hSj (by omega) a5
      obtain ⟨L4, k2, -⟩ := hCi.pend j' oj' B' b1 b2 hSj' (by omega) b5
      have h3 := q1.le _ _ k1.at_
      have h4 := q1.le _ _ k2.at_
      rw [hm] at h3; cases h3
      rw [hm'] at h4; cases h4
      exact hCi.dist j oj B j' oj' B' L L' a1 a2 hSj (by omega) a5 b1 b2 hSj' (by omega) b5 hne2 k1.at_ k2.at_
    · intro b g1 g2 g3
      by_cases hb : b < (Hs (i + 1)).next
      · exact .inl hb
      · rw [q1.same b (.inr (by omega))] at g3
        rcases hCi.ids b g1 g2 g3 with h' | ⟨j, oj, B, a1, a2, a3, a4, a5, a6⟩
        · omega
        · exact .inr ⟨j, oj, B, a1, a2, .inl a3, later j oj a1 a2 a3 a4, a5, a6⟩
    · intro b hb
      rw [q1.same b (by omega)]; exact hCi.out b hb

/-- When all are listed. -/
theorem Inv.done (hcall : CallOk P X call) (hs : Sure P X call ops ps Fs Hs) (h : Inv X ops Fs Hs S0 m0 df S a w) (hall : ∀ i, i < ops.size → S i) :
    ∃ m', Grow (Hs 0) (Hs ops.size) m0 m' ∧ RelF m' (Fs ops.size) a.tmps ∧ a.defers = df ∧ Rel S0 m' (Hs ops.size) w := by
  obtain ⟨G, m, c, hS, hT, hF, hdf, hC, hl⟩ := h
  have hend := hC.to hs hcall hC.le (Nat.le_refl _) (fun t ot hot q1 q2 => by
    refine ⟨fun hw => ?_, fun _ => hall t q2⟩
    have := (hC.wr t ot hot hw).1 (hall t q2)
    omega)
  refine ⟨m, ⟨hC.mu, hC.out⟩, ⟨?_, fun t => ?_⟩, hdf, hend.rel⟩
  · rw [hF.size, hT.n, hs.size ops.size (Nat.le_refl _)]
  · obtain ⟨k, hk, hw, he⟩ := hT.at_ t
    have := hF.val t
    rw [he] at this
    rw [← hs.same (t := t) (i := ops.size) (k := k) (Nat.le_refl _) hk (fun j oj hj _ h1 h2 => by have := lt_of_get hj; omega)
      (fun j oj hj hd h1 h2 => by have := (hw j oj hj hd).1 (hall j h2); omega)]
    exact this

end

end
end Ev
end Go.Proofs.Ytglkgmomnbdkoaa
