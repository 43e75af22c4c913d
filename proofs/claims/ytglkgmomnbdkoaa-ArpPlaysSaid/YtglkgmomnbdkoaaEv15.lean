/- Regions that draw their order, in whatever order. -/
import Derived.Test.YtglkgmomnbdkoaaEv14
namespace Go.Proofs.Ytglkgmomnbdkoaa
namespace Ev

section
variable {P : Program} {X : Ctx} {ops : Array Oper}

/-! ### Frames -/

theorem put_get {F F' : Frm} {d : Option Tmp} {v : Value} (h : F.put d v = some F') : F'.n = F.n ∧ (∀ t, d ≠ some t → F'.t.get t = F.t.get t) ∧ (∀ t, d = some t → F'.t.get t = some v) := by
  cases d with
  | none => rw [Frm.put_none] at h; cases h; exact ⟨rfl, fun _ _ => rfl, fun t e => by cases e⟩
  | some d =>
    rw [Frm.put_some] at h
    cases hb : Nat.blt d F.n with
    | false => simp [hb] at h
    | true =>
      simp [hb] at h; subst h
      exact ⟨rfl, fun t e => by simp; intro e'; exact absurd (congrArg some e'.symm) e, fun t e => by cases e; simp⟩

theorem put_other {F G F' : Frm} {d : Option Tmp} {v : Value} (h : F.put d v = some F') (hn : G.n = F.n) : ∃ G', G.put d v = some G' := by
  cases d with
  | none => exact ⟨G, rfl⟩
  | some d =>
    rw [Frm.put_some] at h ⊢
    rw [hn]
    cases hb : Nat.blt d F.n with
    | false => simp [hb] at h
    | true => exact ⟨_, rfl⟩

/-- An operation in a frame that is alike where it looks. -/
theorem run1_congr {call : Call} {os : List Oper} {o : Oper} {F F' G : Frm} {H H' : Heap} (hn : G.n = F.n) (hop : ∀ x ∈ o.op.operands.toList, F.eval x = G.eval x) (hg : wantedBy F os o = wantedBy G os o)
    (h : run1 X call os o F H = some (F', H')) : ∃ G', run1 X call os o G H = some (G', H') ∧ G'.n = G.n ∧ (∀ t, o.dst ≠ some t → G'.t.get t = G.t.get t) ∧ (∀ t, o.dst = some t → G'.t.get t = F'.t.get t) := by
  unfold run1 at h ⊢
  rw [← hg]
  cases hw : wantedBy F os o with
  | true =>
    simp only [hw, cond_true] at h ⊢
    rw [← step_congr hop]
    split at h
    · rename_i v H1 hs
      split at h
      · rename_i F1 hp
        cases h
        obtain ⟨G', hG'⟩ := put_other hp hn
        obtain ⟨a1, a2, a3⟩ := put_get hG'
        obtain ⟨b1, b2, b3⟩ := put_get hp
        refine ⟨G', by simp only [hG'], a1, a2, fun t e => by rw [a3 t e, b3 t e]⟩
      · cases h
    · cases h
  | false =>
    simp only [hw, cond_false] at h ⊢
    split at h
    · rename_i F1 hp
      cases h
      obtain ⟨G', hG'⟩ := put_other hp hn
      obtain ⟨a1, a2, a3⟩ := put_get hG'
      obtain ⟨b1, b2, b3⟩ := put_get hp
      exact ⟨G', by rw [hG'], a1, a2, fun t e => by rw [a3 t e, b3 t e]⟩
    · cases h

theorem run1_frame {call : Call} {os : List Oper} {o : Oper} {F F' : Frm} {H H' : Heap} (h : run1 X call os o F H = some (F', H')) : F'.n = F.n ∧ ∀ t, o.dst ≠ some t → F'.t.get t = F.t.get t := by
  unfold run1 at h
  cases hw : wantedBy F os o with
  | true =>
    simp only [hw, cond_true] at h
    split at h
    · split at h
      · rename_i hp; cases h
        obtain ⟨b1, b2, b3⟩ := put_get hp
        exact ⟨b1, b2⟩
      · cases h
    · cases h
  | false =>
    simp only [hw, cond_false] at h
    split at h
    · rename_i hp; cases h
      obtain ⟨b1, b2, b3⟩ := put_get hp
      exact ⟨b1, b2⟩
    · cases h

theorem callee_none {F : Frm} {o : Op} (h : cls X.tt o ≠ .w) : callee F o = none := by
  cases o with
  | call c =>
    obtain ⟨cal, args, ats⟩ := c
    cases cal with
    | value f => exact absurd rfl h
    | _ => rfl
  | _ => rfl

/-- What an operation that only computes or reads leaves of memory. -/
theorem run1_quiet {call : Call} {os : List Oper} {o : Oper} {F F' : Frm} {H H' : Heap} (hc : cls X.tt o.op = .p ∨ cls X.tt o.op = .r) (h : run1 X call os o F H = some (F', H')) : H' = H := by
  unfold run1 step at h
  rw [callee_none (X := X) (by rcases hc with hc | hc <;> rw [hc] <;> simp)] at h
  cases hw : wantedBy F os o with
  | true =>
    simp only [hw, cond_true] at h
    split at h
    · rename_i v H1 hs
      split at h
      · cases h
        rcases hc with hc | hc
        · exact (op_p hc hs).1
        · exact (op_r hc hs).1
      · cases h
    · cases h
  | false =>
    simp only [hw, cond_false] at h
    split at h
    · cases h; rfl
    · cases h

theorem run1_p {call : Call} {os : List Oper} {o : Oper} {F F' : Frm} {H H' : Heap} (hc : cls X.tt o.op = .p) (h : run1 X call os o F H = some (F', H')) (H2 : Heap) : run1 X call os o F H2 = some (F', H2) := by
  unfold run1 step at h ⊢
  rw [callee_none (X := X) (by rw [hc]; simp)] at h ⊢
  cases hw : wantedBy F os o with
  | true =>
    simp only [hw, cond_true] at h ⊢
    split at h
    · rename_i v H1 hs
      rw [(op_p hc hs).2 H2]
      split at h
      · rename_i hp; cases h; simp only [hp]
      · cases h
    · cases h
  | false =>
    simp only [hw, cond_false] at h ⊢
    split at h
    · cases h; rfl
    · cases h

/-- What an operation that makes memory does. -/
theorem run1_a {call : Call} {os : List Oper} {o : Oper} {F F' : Frm} {H H' : Heap} (hc : cls X.tt o.op = .a) (h : run1 X call os o F H = some (F', H')) :
    (wantedBy F os o = false ∧ H' = H) ∨ ∃ B, H' = H.alloc B := by
  unfold run1 step at h
  rw [callee_none (X := X) (by rw [hc]; simp)] at h
  cases hw : wantedBy F os o with
  | true =>
    simp only [hw, cond_true] at h
    split at h
    · rename_i v H1 hs
      split at h
      · cases h
        obtain ⟨B, hB, -⟩ := op_a hc hs
        exact .inr ⟨B, hB⟩
      · cases h
    · cases h
  | false =>
    simp only [hw, cond_false] at h
    split at h
    · cases h; exact .inl ⟨rfl, rfl⟩
    · cases h

/-! ### Worlds -/

/-- The whole world is kept. -/
def whole (w : World) : Base := ⟨w, fun b => b < w.heap.size⟩

/-- A block that was made ahead of its time. -/
structure Made (S : Base) (m : Mu) (w : World) (id : Nat) (B : Blk) (L : Loc) : Prop where
  at_ : m id = some L
  br : BR m w B L
  open_ : ¬ S.K L.blk

theorem Rel.absorb {S : Base} {m : Mu} {H : Heap} {w : World} (h : Rel S m H w) {B : Blk} {L : Loc} (hm : Made S m w H.next B L)
    (hne : ∀ b Bb Lb, H.get b = some Bb → m b = some Lb → Lb.blk ≠ L.blk) : Rel S m (H.alloc B) w := by
  refine ⟨?_, ?_, ?_, h.bound, ?_, h.kept, h.os, h.out, h.tape⟩
  · intro b hb
    simp only [Heap.next_alloc] at hb
    rw [Heap.get_alloc, if_neg (by omega)]; exact h.wf b (by omega)
  · intro b Bb hb
    rw [Heap.get_alloc] at hb
    split at hb
    · rename_i e; subst e; cases hb; exact ⟨L, hm.at_, hm.br⟩
    · exact h.alive b Bb hb
  · intro i j Bi Bj Li Lj hi hj hmi hmj e
    rw [Heap.get_alloc] at hi hj
    by_cases ei : i = H.next <;> by_cases ej : j = H.next
    · omega
    · rw [if_neg ej] at hj
      rw [ei, hm.at_] at hmi; cases hmi
      exact absurd e.symm (hne _ _ _ hj hmj)
    · rw [if_neg ei] at hi
      rw [ej, hm.at_] at hmj; cases hmj
      exact absurd e (hne _ _ _ hi hmi)
    · rw [if_neg ei] at hi; rw [if_neg ej] at hj
      exact h.inj i j Bi Bj Li Lj hi hj hmi hmj e
  · intro b Bb Lb hb hmb
    rw [Heap.get_alloc] at hb
    split at hb
    · rename_i e; subst e
      rw [hm.at_] at hmb; cases hmb
      exact hm.open_
    · exact h.open_ _ _ _ hb hmb

/-- More is kept. -/
def Base.also (S : Base) (w : World) (D : Nat → Prop) : Base := ⟨w, fun b => S.K b ∨ D b⟩

theorem Rel.also {S : Base} {m : Mu} {H : Heap} {w : World} (h : Rel S m H w) {D : Nat → Prop} (hD : ∀ b, D b → b < w.heap.size) (hne : ∀ b B L, H.get b = some B → m b = some L → ¬ D L.blk) :
    Rel (S.also w D) m H w :=
  ⟨h.wf, h.alive, h.inj, h.bound, fun b B L hb hm hk => hk.elim (h.open_ b B L hb hm) (hne b B L hb hm), fun b hb => ⟨hb.elim (fun h' => (h.kept b h').1) (hD b), rfl⟩, rfl, rfl, rfl⟩

theorem ExtOk.also {S : Base} (h : ExtOk X S) {m : Mu} {H : Heap} {w : World} (hr : Rel S m H w) (D : Nat → Prop) : ExtOk X (S.also w D) :=
  ⟨fun b o v hv => by
    obtain ⟨hk, v', h1, h2⟩ := h.ext b o v hv
    refine ⟨.inl hk, v', ?_, h2⟩
    rw [← h1]
    simp only [Base.also, World.cell?, (hr.kept b hk).2]⟩

theorem Rel.only {S : Base} {m m' : Mu} {H H' : Heap} {w w' : World} {D : Nat → Prop} (h0 : Rel S m H w) (h : Rel (S.also w D) m' H' w') : Rel S m' H' w' :=
  ⟨h.wf, h.alive, h.inj, h.bound, fun b B L hb hm hk => h.open_ b B L hb hm (.inl hk), fun b hb => by
    have h1 := h.kept b (.inl hb)
    exact ⟨h1.1, h1.2.trans (h0.kept b hb).2⟩, h.os.trans h0.os, h.out.trans h0.out, h.tape.trans h0.tape⟩

/-- A world that has only grown. -/
theorem Rel.still {S : Base} {m m' : Mu} {H : Heap} {w w' : World} (h : Rel S m H w) (hle : m.le m') (hold : ∀ b, b < w.heap.size → w'.heap[b]? = w.heap[b]?) (hsz : w.heap.size ≤ w'.heap.size)
    (hb : ∀ b L, m' b = some L → L.blk < w'.heap.size) (hos : w'.os = w.os) (hout : w'.output = w.output) (htape : w'.tape = w.tape) : Rel S m' H w' := by
  have same : ∀ b B L, H.get b = some B → m' b = some L → m b = some L := by
    intro b B L hb' hm
    obtain ⟨L', h1, h2⟩ := h.alive b B hb'
    have := hle _ _ h1
    rw [hm] at this; cases this; exact h1
  refine ⟨h.wf, ?_, ?_, hb, ?_, ?_, hos.trans h.os, hout.trans h.out, htape.trans h.tape⟩
  · intro b B hb'
    obtain ⟨L, h1, h2⟩ := h.alive b B hb'
    exact ⟨L, hle _ _ h1, h2.mono hle (hold _ (h.bound _ _ h1))⟩
  · intro i j Bi Bj Li Lj hi hj hmi hmj e
    exact h.inj i j Bi Bj Li Lj hi hj (same _ _ _ hi hmi) (same _ _ _ hj hmj) e
  · intro b B L hb' hm
    exact h.open_ b B L hb' (same _ _ _ hb' hm)
  · intro b hk
    have := h.kept b hk
    exact ⟨by omega, (hold b this.1).trans this.2⟩

theorem Made.still {S : Base} {m m' : Mu} {w w' : World} {id : Nat} {B : Blk} {L : Loc} (h : Made S m w id B L) (hle : m.le m') (hold : w'.heap[L.blk]? = w.heap[L.blk]?) : Made S m' w' id B L :=
  ⟨hle _ _ h.at_, h.br.mono hle hold, h.open_⟩

/-! ### One operation, at its time -/

/-- An operation that only computes or reads. -/
theorem wpOp_quiet (htie : Tied P X) (hzero : ZeroOk X) {call : Call} {S : Base} {m : Mu} {H H' : Heap} {w : World} (hext : ExtOk X S) (hr : Rel S m H w) {F F' : Frm} {a : Act} (hF : RelF m F a.tmps) {i : Nat} {o : Oper}
    (ho : ops[i]? = some o) (hp : okOp o.op = true) (hc : cls X.tt o.op = .p ∨ cls X.tt o.op = .r) (h : run1 X call ops.toList o F H = some (F', H'))
    {next : Act → World → Prop} {Q : Exit → Act → World → Prop} (hn : ∀ a', RelF m F' a'.tmps → a'.defers = a.defers → next a' w) : wpOp P ops Q i next a w := by
  unfold wpOp
  simp only [ho]
  rw [wanted_ok hF]
  unfold run1 step at h
  rw [callee_none (X := X) (by rcases hc with hc | hc <;> rw [hc] <;> simp)] at h
  cases hw : wantedBy F ops.toList o with
  | true =>
    simp only [hw, cond_true] at h
    rw [if_pos rfl]
    left
    split at h
    · rename_i v H1 hs
      split at h
      · rename_i F1 hput
        cases h
        obtain ⟨v', q1, q2⟩ := opq_ok (w := w) htie hext hzero hr hF hp hc hs
        unfold Oper.wp
        rw [q2, Oper.upon_value]
        exact hn _ (hF.put q1 hput) (act_put_defers _ _ _)
      · cases h
    · cases h
  | false =>
    simp only [hw, cond_false] at h
    rw [if_neg (by simp)]
    split at h
    · rename_i F1 hput
      cases h
      exact hn _ (hF.put (.undef m) hput) (act_put_defers _ _ _)
    · cases h

/-- An operation that makes memory: its number is free. -/
theorem wpOp_make (htie : Tied P X) (hzero : ZeroOk X) {call : Call} (hcall : CallOk P X call) {m : Mu} {H H' : Heap} {w : World} (hbound : ∀ b L, m b = some L → L.blk < w.heap.size)
    {F F' : Frm} {a : Act} (hF : RelF m F a.tmps) {i : Nat} {o : Oper} (hX : ExtOk X (whole w))
    (ho : ops[i]? = some o) (hp : okOp o.op = true) (hc : cls X.tt o.op = .a) (h : run1 X call ops.toList o F H = some (F', H')) (hfree : ∀ B, H' = H.alloc B → m H.next = none)
    {next : Act → World → Prop} {Q : Exit → Act → World → Prop}
    (hn : ∀ m' a' w', m.le m' → (∀ b, b ≠ H.next → m' b = m b) → RelF m' F' a'.tmps → a'.defers = a.defers → (∀ b, b < w.heap.size → w'.heap[b]? = w.heap[b]?) → w.heap.size ≤ w'.heap.size →
      (∀ b L, m' b = some L → L.blk < w'.heap.size) → w'.os = w.os → w'.output = w.output → w'.tape = w.tape →
      (∀ B, H' = H.alloc B → ∃ L, m' H.next = some L ∧ BR m' w' B L ∧ w.heap.size ≤ L.blk) → (H' = H → m' = m ∧ w' = w) → next a' w') : wpOp P ops Q i next a w := by
  unfold run1 at h
  cases hw : wantedBy F ops.toList o with
  | false =>
    unfold wpOp
    simp only [ho]
    rw [wanted_ok hF, hw]
    simp only [hw, cond_false] at h
    rw [if_neg (by simp)]
    split at h
    · rename_i F1 hput
      cases h
      refine hn m _ w m.le_refl (fun _ _ => rfl) (hF.put (.undef m) hput) (act_put_defers _ _ _) (fun _ _ => rfl) (Nat.le_refl _) hbound rfl rfl rfl ?_ (fun _ => ⟨rfl, rfl⟩)
      intro B hB
      have := congrArg Heap.next hB
      simp at this
    · cases h
  | true =>
    simp only [hw, cond_true] at h
    split at h
    · rename_i v H1 hs
      split at h
      · rename_i F1 hput
        cases h
        have hs' := hs
        unfold step at hs'
        rw [callee_none (X := X) (by rw [hc]; simp)] at hs'
        obtain ⟨B, hB, hind⟩ := op_a hc hs'
        let E : Heap := ⟨.leaf, H.next⟩
        have hrE : Rel (whole w) m E w := by
          refine ⟨fun b _ => rfl, (fun b B hb => by cases hb), (fun i j Bi Bj Li Lj hi => by cases hi), hbound, (fun b B L hb => by cases hb), (fun b hb => ⟨hb, rfl⟩), rfl, rfl, rfl⟩
        have hsE := hind E rfl
        have hfr : Free E (E.alloc B) m := by
          intro b h1 h2
          have : b = H.next := by simp only [Heap.next_alloc] at h2; show b = E.next; omega
          rw [this]; exact hfree B hB
        have hrun : run1 X call ops.toList o F E = some (F', E.alloc B) := by
          unfold run1 step
          rw [callee_none (X := X) (by rw [hc]; simp), hw]
          simp only [cond_true, hsE, hput]
        refine run1_ok htie hzero hcall hX hrE hfr hF ho hp hrun ?_
        intro m' a' w' q1 q2 q3 q4
        have hkept : ∀ b, b < w.heap.size → b < w'.heap.size ∧ w'.heap[b]? = w.heap[b]? := fun b hb => q4.kept b hb
        have hsz : w.heap.size ≤ w'.heap.size := by
          rcases Nat.lt_or_ge w'.heap.size w.heap.size with h' | h'
          · have := (hkept _ h').1; omega
          · exact h'
        refine hn m' a' w' q1.le (fun b hb => q1.same b (by show b < H.next ∨ H.next + 1 ≤ b; omega)) q2 q3 (fun b hb => (hkept b hb).2) hsz q4.bound q4.os q4.out q4.tape ?_ ?_
        · intro B' hB'
          have e : B' = B := by
            have h1 : (H.alloc B').get H.next = (H.alloc B).get H.next := by rw [← hB', ← hB]
            simp at h1; exact h1
          subst e
          have hg : (E.alloc B').get H.next = some B' := by rw [Heap.get_alloc]; exact if_pos rfl
          obtain ⟨L, g1, g2⟩ := q4.alive H.next B' hg
          refine ⟨L, g1, g2, ?_⟩
          rcases Nat.lt_or_ge L.blk w.heap.size with h' | h'
          · exact absurd h' (q4.open_ _ _ _ hg g1)
          · exact h'
        · intro e
          rw [hB] at e
          have := congrArg Heap.next e
          simp at this
      · cases h
    · cases h

end
end Ev
end Go.Proofs.Ytglkgmomnbdkoaa
