/- Every operation that calls no function: the evaluator's and the model's. -/
import Derived.Test.YtglkgmomnbdkoaaEv10
namespace Go.Proofs.Ytglkgmomnbdkoaa
namespace Ev

def okOp (o : Op) : Bool := o.operands.toList.all okO

/-- Zero values are the same everywhere. -/
structure ZeroOk (X : Ctx) : Prop where
  zero : ∀ t i, X.tt.get t = some i → i.zero.all plainV = true

theorem ZeroOk.vrs {X : Ctx} (h : ZeroOk X) (m : Mu) (t : TypeId) (i : TI) (hi : X.tt.get t = some i) : VRs m i.zero i.zero := plain_zero (h.zero t i hi) m

section
variable {P : Program} {X : Ctx} {S : Base} {m : Mu} {H : Heap} {w : World}

/-- What an operation comes to: a value, or none. -/
def Done (P : Program) (S : Base) (H : Heap) (m : Mu) (w : World) (s : Sem Next) (v : Value) (H' : Heap) : Prop :=
  ∃ m' v' w', Grow H H' m m' ∧ VR m' v v' ∧ Rel S m' H' w' ∧ (s.run P w = .ok (.value v') w' ∨ (s.run P w = .ok .skip w' ∧ v' = undef))

theorem Makes.done {s : Sem Value} {v : Value} {H' : Heap} (h : Makes P S H m w s v H') : Done P S H m w (do pure (.value (← s))) v H' := by
  obtain ⟨m', v', w', h1, h2, h3, h4⟩ := h
  exact ⟨m', v', w', h1, h3, h4, .inl (by rw [Sem.run_bind, h2]; rfl)⟩

theorem Gives.done (hr : Rel S m H w) {s : Sem Value} {v : Value} (h : Gives P m w s v) : Done P S H m w (do pure (.value (← s))) v H := (h.makes hr).done

theorem mm_ok {mx : Bool} : ∀ {l l' : List Value} {v v' r : Value}, mm mx v l = some r → VR m v v' → VRs m l l' →
    Gives P m w (l'.foldlM (fun a b => if mx then Builtin.max2 a b else Builtin.min2 a b) v') r := by
  intro l
  induction l with
  | nil => intro l' v v' r h hv hl; cases hl; simp [mm] at h; subst h; exact ⟨v', by simp, hv⟩
  | cons x l ih =>
    intro l' v v' r h hv hl
    cases hl with
    | cons hx hl =>
      unfold mm at h
      split at h
      · rename_i e; cases e
      · rename_i k a k' b l2 e
        cases e
        split at h
        · rename_i hk
          subst hk
          cases hv; cases hx
          obtain ⟨r', q1, q2⟩ := ih h (.int _ _) hl
          refine ⟨r', ?_, q2⟩
          rw [← q1]
          cases mx
          · simp [Builtin.min2]
          · simp [Builtin.max2]
        · cases h
      · cases h

theorem VRs.inv1 {x : Value} {l' : List Value} (h : VRs m [x] l') : ∃ x', l' = [x'] ∧ VR m x x' := by
  cases h with
  | cons h1 h2 => cases h2; exact ⟨_, rfl, h1⟩

theorem VRs.inv2 {x y : Value} {l' : List Value} (h : VRs m [x, y] l') : ∃ x' y', l' = [x', y'] ∧ VR m x x' ∧ VR m y y' := by
  cases h with
  | cons h1 h2 =>
    obtain ⟨y', rfl, h3⟩ := h2.inv1
    exact ⟨_, _, rfl, h1, h3⟩

theorem builtin_ok (htie : Tied P X) (hext : ExtOk X S) (hr : Rel S m H w) {H' : Heap} (hfree : Free H H' m) {b : Builtin} {ats : Array TypeId} {ty : TypeId} {cs : Array Bool} {args args' : List Value} {v : Value}
    (h : builtin X H b ats.toList args = some (v, H')) (ha : VRs m args args') : Done P S H m w (Go.builtin b ats ty cs args'.toArray) v H' := by
  unfold builtin at h
  split at h
  · rename_i st xt s x hats
    obtain ⟨s', x', rfl, hs, hx⟩ := ha.inv2
    have : ats = #[st, xt] := by apply Array.toList_inj.1; rw [hats]
    subst this
    exact (append_ok htie hext hr hfree h hs hx).done
  · rename_i dt ts d s hats
    obtain ⟨d', s', rfl, hd, hs⟩ := ha.inv2
    have : ats = (dt :: ts).toArray := by apply Array.toList_inj.1; rw [hats]
    subst this
    exact (copy_ok htie hext hr ts h hd hs).done
  · rename_i t ts x hats
    obtain ⟨x', rfl, hx⟩ := ha.inv1
    split at h
    · rename_i v0 hv0
      cases h
      have : ats = (t :: ts).toArray := by apply Array.toList_inj.1; rw [hats]
      subst this
      exact (lenV_ok htie hr hv0 hx ts).done hr
    · cases h
  · rename_i t ts a l c hats
    obtain ⟨x', rfl, hx⟩ := ha.inv1
    split at h
    · rename_i i hi
      split at h
      · rename_i e hk
        cases hc : Nat.blt c unk with
        | false => simp [hc] at h
        | true =>
          simp only [hc, cond_true] at h
          cases h
          have hc : c < unk := Nat.le_of_ble_eq_true hc
          obtain ⟨d, d1, d2, d3, d4⟩ := run_underlying (htie.tt _ _ hi) w
          rw [hk] at d2
          have := tkOf_slice d2; subst this
          have : ats = (t :: ts).toArray := by apply Array.toList_inj.1; rw [hats]
          subst this
          have hx' : ∃ a', x' = Value.slice a' l c := by
            cases hx with
            | slNil => exact ⟨_, rfl⟩
            | sl => exact ⟨_, rfl⟩
            | slU _ _ _ _ _ z _ hc' => omega
            | slX => exact ⟨_, rfl⟩
            | slZ => exact ⟨_, rfl⟩
          obtain ⟨a', rfl⟩ := hx'
          exact Gives.done hr ⟨.int .i64 (c : Nat), by simp [Builtin.cap_, d1, goInt], .int _ _⟩
      · cases h
    · cases h
  · rename_i t ts mp k hats
    obtain ⟨x', k', rfl, hx, hk⟩ := ha.inv2
    split at h
    · rename_i H1 hd
      cases h
      have : ats = (t :: ts).toArray := by apply Array.toList_inj.1; rw [hats]
      subst this
      obtain ⟨w', q1, q2⟩ := delete_ok (ty := ty) htie hr hd hx hk ts
      exact ⟨m, .tuple #[], w', (.of_next), .tuple .nil, q2, .inl (by simp [Go.builtin, q1])⟩
    · cases h
  · rename_i v0 l
    split at h
    · rename_i v1 hv
      cases h
      cases ha with
      | cons h1 h2 =>
        have := mm_ok (P := P) (w := w) hv h1 h2
        simp only [if_true] at this
        exact this.done hr
    · cases h
  · rename_i v0 l
    split at h
    · rename_i v1 hv
      cases h
      cases ha with
      | cons h1 h2 =>
        have := mm_ok (P := P) (w := w) hv h1 h2
        simp only [Bool.false_eq_true, if_false] at this
        exact this.done hr
    · cases h
  · cases h

theorem OR_map {F : Frm} {a : Act} (hF : RelF m F a.tmps) (x : Option Operand) (hx : ∀ y, x = some y → okO y = true) : OR m (x.map F.eval) (x.map a.eval) := by
  cases x with
  | none => exact .none
  | some y => exact .some (hF.eval (hx y rfl))

theorem PR_map {F : Frm} {a : Act} (hF : RelF m F a.tmps) : ∀ (l : List (Nat × Operand)), (l.all fun p => okO p.2) = true → PR m (l.map fun p => (p.1, F.eval p.2)) (l.map fun p => (p.1, a.eval p.2))
  | [], _ => .nil
  | p :: l, h => by
    simp only [List.all_cons, Bool.and_eq_true] at h
    exact .cons _ (hF.eval h.1) (PR_map hF l h.2)

set_option maxHeartbeats 4000000 in
theorem op_ok (htie : Tied P X) (hext : ExtOk X S) (hzero : ZeroOk X) (hr : Rel S m H w) {H' : Heap} (hfree : Free H H' m) {F : Frm} {a : Act} (hF : RelF m F a.tmps) {o : Oper} (hp : okOp o.op = true) {v : Value}
    (h : op X F H o.op = some (v, H')) : Done P S H m w (execOp a.eval o) v H' := by
  obtain ⟨dst, o, ty, pos, after, guard⟩ := o
  simp only at hp h
  have hz := hzero.vrs m
  have only : ∀ {x : Option Value}, (match x with | some v => some (v, H) | none => none) = some (v, H') → x = some v ∧ H' = H := by
    intro x hx
    cases x with
    | none => cases hx
    | some y => cases hx; exact ⟨rfl, rfl⟩
  have unit : ∀ {x : Option Heap}, (match x with | some h => some (undef, h) | none => none) = some (v, H') → x = some H' ∧ v = undef := by
    intro x hx
    cases x with
    | none => cases hx
    | some y => cases hx; exact ⟨rfl, rfl⟩
  cases o with
  | move x =>
    simp only [okOp, Op.operands, List.all_cons, List.all_nil, Bool.and_true] at hp
    cases h
    exact ⟨m, a.eval x, w, (.of_next), hF.eval hp, hr, .inl rfl⟩
  | assign x =>
    simp only [okOp, Op.operands, List.all_cons, List.all_nil, Bool.and_true] at hp
    cases h
    exact ⟨m, a.eval x, w, (.of_next), hF.eval hp, hr, .inl rfl⟩
  | pick c x y =>
    simp only [okOp, Op.operands, List.all_cons, List.all_nil, Bool.and_true, Bool.and_eq_true] at hp
    simp only [op] at h
    have hc := hF.eval hp.1
    split at h
    · rename_i hcv; rw [hcv] at hc; cases h
      generalize hq : a.eval c = cv at hc
      cases hc
      exact ⟨m, a.eval x, w, (.of_next), hF.eval hp.2.1, hr, .inl (by simp [execOp, hq, asBool])⟩
    · rename_i hcv; rw [hcv] at hc; cases h
      generalize hq : a.eval c = cv at hc
      cases hc
      exact ⟨m, a.eval y, w, (.of_next), hF.eval hp.2.2, hr, .inl (by simp [execOp, hq, asBool])⟩
    · cases h
  | alloc e =>
    simp only [op] at h
    split at h
    · rename_i i hi
      cases hb : Nat.beq i.zero.length i.size with
      | false => simp [hb] at h
      | true =>
        simp only [hb, cond_true] at h
        obtain ⟨z, z1, z2, z3⟩ := run_zeroValue (htie.tt _ _ hi) w
        cases h
        refine Makes.done (P := P) (s := Instr.alloc e true (.tuple #[])) ?_
        have hv := hz _ _ hi
        rw [z2] at hv
        obtain ⟨m', v', w', q1, q2, q3, q4⟩ := newVar_ok (P := P) hr (hfree _ (Nat.le_refl _) (by simp)) (t := e) hv
        refine ⟨m', v', w', by rw [z2]; exact q1, ?_, q3, by rw [z2]; exact q4⟩
        simp only [Instr.alloc, Sem.run_bind, z1, Result.andThen_ok]
        simpa only [Sem.run_bind] using q2
    · cases h
  | box e x =>
    simp only [okOp, Op.operands, List.all_cons, List.all_nil, Bool.and_true] at hp
    cases h
    exact Makes.done (s := Instr.box e (a.eval x)) (newVar_ok (P := P) hr (hfree _ (Nat.le_refl _) (by simp)) (t := e) (hF.eval hp).cells)
  | build t ps =>
    simp only [op] at h
    obtain ⟨h1, rfl⟩ := only h
    have hp' : (ps.toList.all fun p => okO p.2) = true := by simpa [okOp, Op.operands, List.all_map] using hp
    refine Gives.done hr (s := Instr.build t (ps.map fun (i, x) => (i, a.eval x))) (build_ok htie h1 ?_ (fun i hi => hz _ _ hi))
    rw [Array.toList_map]
    exact PR_map hF _ hp'
  | buildSlice t n ps =>
    simp only [op] at h
    have hp' : (ps.toList.all fun p => okO p.2) = true := by simpa [okOp, Op.operands, List.all_map] using hp
    have hpr : PR m (ps.toList.map fun p => (p.1, F.eval p.2)) (ps.map fun (i, x) => (i, a.eval x)).toList := by
      rw [Array.toList_map]
      exact PR_map hF _ hp'
    have := (buildSlice_ok htie hr hfree h hpr hz).done
    exact this
  | load t x =>
    simp only [okOp, Op.operands, List.all_cons, List.all_nil, Bool.and_true] at hp
    simp only [op] at h
    obtain ⟨h1, rfl⟩ := only h
    exact Gives.done hr (s := Instr.loadAt t (a.eval x)) (load_ok htie hext hr h1 (hF.eval hp))
  | store t x y =>
    simp only [okOp, Op.operands, List.all_cons, List.all_nil, Bool.and_true, Bool.and_eq_true] at hp
    simp only [op] at h
    obtain ⟨h1, rfl⟩ := unit h
    obtain ⟨w', q1, q2⟩ := store_ok htie hr h1 (hF.eval hp.1) (hF.eval hp.2)
    exact ⟨m, undef, w', (.of_next), .undef m, q2, .inr ⟨by simp [execOp, q1], rfl⟩⟩
  | nilCheck x =>
    simp only [okOp, Op.operands, List.all_cons, List.all_nil, Bool.and_true] at hp
    simp only [op] at h
    obtain ⟨h1, rfl⟩ := only h
    have hv := hF.eval hp
    unfold nilCheck at h1
    split at h1
    · rename_i ad he; rw [he] at hv; cases h1
      refine ⟨m, a.eval x, w, (.of_next), hv, hr, .inl ?_⟩
      generalize hq : a.eval x = xv at hv
      cases hv <;> simp [execOp, hq]
    · rename_i f first captured he; rw [he] at hv; cases h1
      refine ⟨m, a.eval x, w, (.of_next), hv, hr, .inl ?_⟩
      generalize hq : a.eval x = xv at hv
      cases hv <;> simp [execOp, hq]
    · cases h1
  | binOp b t x y t' =>
    simp only [okOp, Op.operands, List.all_cons, List.all_nil, Bool.and_true, Bool.and_eq_true] at hp
    simp only [op] at h
    obtain ⟨h1, rfl⟩ := only h
    exact Gives.done hr (s := do eqGuard b t x y (a.eval x) (a.eval y); Go.binOp b t (a.eval x) (a.eval y)) (bin_ok htie h1 (hF.eval hp.1) (hF.eval hp.2) x y)
  | unOp u t x =>
    simp only [okOp, Op.operands, List.all_cons, List.all_nil, Bool.and_true] at hp
    simp only [op] at h
    obtain ⟨h1, rfl⟩ := only h
    exact Gives.done hr (s := Op.unary u (a.eval x)) (un_ok h1 (hF.eval hp))
  | convert s d x =>
    simp only [okOp, Op.operands, List.all_cons, List.all_nil, Bool.and_true] at hp
    simp only [op] at h
    exact Makes.done (s := Go.convert s d (a.eval x)) (conv_ok htie hext hr hfree h (hF.eval hp))
  | makeFunc fn first captured =>
    cases h
    have hp' : first.toList.all okO = true ∧ captured.toList.all okO = true := by simpa [okOp, Op.operands, List.all_append] using hp
    refine ⟨m, .func fn (first.map a.eval) (captured.map a.eval), w, (.of_next), .func fn ?_ ?_, hr, .inl (by simp [execOp, Instr.makeFunc])⟩
    · rw [Array.toList_map]; exact hF.evals hp'.1
    · rw [Array.toList_map]; exact hF.evals hp'.2
  | makeMap t r =>
    simp only [op] at h
    split at h
    · cases h
      have hfree' : m H.next = none := hfree _ (Nat.le_refl _) (by simp)
      refine ⟨m.set H.next ⟨w.heap.size, 0, 0⟩, .map (some w.heap.size), w.alloc (.map #[] 0), .alloc hfree' _ rfl, .map (L := ⟨w.heap.size, 0, 0⟩) (by simp [Mu.set]), ?_, .inl (by simp [execOp, Instr.makeMap])⟩
      refine hr.alloc hfree' _ _ _ rfl ⟨#[], by show (w.heap.push _)[w.heap.size]? = _; simp, .nil⟩
    · cases h
  | makeSlice t l c =>
    simp only [okOp, Op.operands, List.all_cons, List.all_nil, Bool.and_true, Bool.and_eq_true] at hp
    simp only [op] at h
    exact Makes.done (s := Instr.makeSlice t (a.eval l) (a.eval c)) (makeSlice_ok htie hr hfree h (hF.eval hp.1) (hF.eval hp.2) hz)
  | slice t x lo hi mx =>
    simp only [op] at h
    obtain ⟨h1, rfl⟩ := only h
    have hp' : okO x = true ∧ (∀ y, lo = some y → okO y = true) ∧ (∀ y, hi = some y → okO y = true) ∧ (∀ y, mx = some y → okO y = true) := by
      simp only [okOp, Op.operands] at hp
      cases lo <;> cases hi <;> cases mx <;> simp_all
    exact Gives.done hr (s := Instr.sliceAt t (a.eval x) (lo.map a.eval) (hi.map a.eval) (mx.map a.eval)) (slice_ok htie h1 (hF.eval hp'.1) (OR_map hF _ hp'.2.1) (OR_map hF _ hp'.2.2.1) (OR_map hF _ hp'.2.2.2))
  | fieldAddr t x f =>
    simp only [okOp, Op.operands, List.all_cons, List.all_nil, Bool.and_true] at hp
    simp only [op] at h
    obtain ⟨h1, rfl⟩ := only h
    exact Gives.done hr (s := Instr.fieldAt t (a.eval x) f) (fieldAddr_ok htie h1 (hF.eval hp))
  | field t x f =>
    simp only [okOp, Op.operands, List.all_cons, List.all_nil, Bool.and_true] at hp
    simp only [op] at h
    obtain ⟨h1, rfl⟩ := only h
    exact Gives.done hr (s := Instr.field t (a.eval x) f) (field_ok htie h1 (hF.eval hp))
  | indexAddr t x i =>
    simp only [okOp, Op.operands, List.all_cons, List.all_nil, Bool.and_true, Bool.and_eq_true] at hp
    simp only [op] at h
    obtain ⟨h1, rfl⟩ := only h
    exact Gives.done hr (s := Instr.indexAt t (a.eval x) (a.eval i)) (indexAddr_ok htie h1 (hF.eval hp.1) (hF.eval hp.2))
  | index t x i =>
    simp only [okOp, Op.operands, List.all_cons, List.all_nil, Bool.and_true, Bool.and_eq_true] at hp
    simp only [op] at h
    obtain ⟨h1, rfl⟩ := only h
    exact Gives.done hr (s := Instr.index t (a.eval x) (a.eval i)) (index_ok htie h1 (hF.eval hp.1) (hF.eval hp.2))
  | lookup t x k ok =>
    simp only [okOp, Op.operands, List.all_cons, List.all_nil, Bool.and_true, Bool.and_eq_true] at hp
    simp only [op] at h
    obtain ⟨h1, rfl⟩ := only h
    exact Gives.done hr (s := Instr.lookup t (a.eval x) (a.eval k) ok) (lookup_ok htie hr h1 (hF.eval hp.1) (hF.eval hp.2) hz)
  | mapUpdate t x k y =>
    simp only [okOp, Op.operands, List.all_cons, List.all_nil, Bool.and_true, Bool.and_eq_true] at hp
    simp only [op] at h
    obtain ⟨h1, rfl⟩ := unit h
    obtain ⟨w', q1, q2⟩ := mapUpdate_ok htie hr h1 (hF.eval hp.1) (hF.eval hp.2.1) (hF.eval hp.2.2)
    exact ⟨m, undef, w', (.of_next), .undef m, q2, .inr ⟨by simp [execOp, q1], rfl⟩⟩
  | extract x i =>
    simp only [okOp, Op.operands, List.all_cons, List.all_nil, Bool.and_true] at hp
    simp only [op] at h
    obtain ⟨h1, rfl⟩ := only h
    have hv := hF.eval hp
    unfold extract at h1
    split at h1
    · rename_i vs he
      rw [he] at hv
      rw [getN_eq] at h1
      generalize hq : a.eval x = xv at hv
      cases hv with
      | @tuple _ a' hvs =>
        obtain ⟨v', k1, k2⟩ := hvs.get h1
        refine ⟨m, v', w, (.of_next), k2, hr, .inl ?_⟩
        rw [Array.getElem?_toList] at k1
        simp [execOp, hq, Instr.extract, k1]
    · cases h1
  | call c =>
    obtain ⟨cal, args, ats⟩ := c
    simp only [op] at h
    cases cal with
    | builtin b =>
      simp only at h
      have hp' : args.toList.all okO = true := by simpa [okOp, Op.operands, Call.operands] using hp
      have := builtin_ok (ty := ty) (cs := args.map fun | .const _ => true | _ => false) htie hext hr hfree h (hF.evals hp')
      have he : execOp a.eval ⟨dst, .call ⟨.builtin b, args, ats⟩, ty, pos, after, guard⟩ = Go.builtin b ats ty (args.map fun | .const _ => true | _ => false) (args.toList.map a.eval).toArray := by
        have : (args.toList.map a.eval).toArray = args.map a.eval := by
          apply Array.toList_inj.1
          rw [Array.toList_map]
        rw [this]; rfl
      rw [he]
      exact this
    | value f => cases h
    | invoke r n => cases h
  | _ => cases h

/-- Numbers are handed out upwards, and none is used ahead. -/
def Up (H H' : Heap) : Prop := H.next ≤ H'.next ∧ ((∀ b, H.next ≤ b → H.get b = none) → ∀ b, H'.next ≤ b → H'.get b = none)

theorem Up.refl (H : Heap) : Up H H := ⟨Nat.le_refl _, fun h => h⟩
theorem Up.trans {H H1 H' : Heap} (h : Up H H1) (h' : Up H1 H') : Up H H' := ⟨Nat.le_trans h.1 h'.1, fun hw => h'.2 (h.2 hw)⟩
theorem Up.alloc (H : Heap) (B : Blk) : Up H (H.alloc B) := ⟨by simp, fun hw b hb => by
  simp only [Heap.next_alloc] at hb
  rw [Heap.get_alloc, if_neg (by omega)]; exact hw b (by omega)⟩
theorem Up.kill (H : Heap) (b : Nat) : Up H (H.kill b) := ⟨Nat.le_refl _, fun hw j hj => by
  rw [Heap.get_kill]; split
  · rfl
  · exact hw j hj⟩
theorem Up.set {H : Heap} {b : Nat} {B0 : Blk} (hb : H.get b = some B0) (B : Blk) : Up H (H.set b B) := ⟨Nat.le_refl _, fun hw j hj => by
  rw [Heap.get_set]; split
  · rename_i e; subst e; rw [hw _ hj] at hb; cases hb
  · exact hw j hj⟩

theorem wrN_up {H H' : Heap} {a : Addr} {vs : List Value} (h : wrN H a vs = some H') : Up H H' := by
  unfold wrN at h
  split at h
  · split at h
    · rename_i hg
      split at h
      · cases h; exact Up.set hg _
      · cases h
    · cases h
  · cases h

theorem append_up {H' : Heap} {st xt : TypeId} {s x v : Value} (h : append X H st xt s x = some (v, H')) : Up H H' := by
  unfold append at h
  split at h
  · split at h
    · cases h
    · split at h
      · rename_i ie n _ _
        cases hb : (Nat.blt 0 ie.size && Nat.blt 0 ie.bytes && Nat.beq ie.zero.length ie.size) with
        | false => simp [hb] at h
        | true =>
          simp only [hb, cond_true] at h
          split at h
          · cases h
          · rename_i new _
            revert h
            cases Nat.ble unk _ with
            | true =>
              simp only [cond_true]
              cases Nat.beq _ (unk + ie.size) with
              | false => simp
              | true =>
                simp only [cond_true]
                intro h
                split at h
                · unfold appendU at h
                  split at h
                  · cases h
                  · cases hn : Nat.beq n 0 with
                    | true => simp only [hn, cond_true] at h; cases h; exact Up.refl _
                    | false =>
                      simp only [hn, cond_false] at h
                      split at h
                      · revert h
                        cases (roomOk _ _ _ && _) with
                        | false => simp
                        | true =>
                          simp only [cond_true]
                          intro h
                          split at h
                          · cases h
                          · cases h; exact (Up.kill _ _).trans (Up.alloc _ _)
                      · cases h
                · cases h
            | false =>
              simp only [cond_false]
              intro h
              unfold appendK at h
              revert h
              cases Nat.ble _ _ with
              | true =>
                simp only [cond_true]
                intro h
                split at h
                · cases h; exact Up.refl _
                · cases hn : Nat.beq n 0 with
                  | true => simp only [hn, cond_true] at h; cases h; exact Up.refl _
                  | false =>
                    simp only [hn, cond_false] at h
                    split at h
                    · rename_i hw; cases h; exact wrN_up hw
                    · cases h
              | false =>
                simp only [cond_false]
                cases roomOk _ _ _ with
                | false => simp
                | true =>
                  simp only [cond_true]
                  intro h
                  split at h
                  · cases h
                  · cases h; exact Up.alloc _ _
      · cases h
    · cases h
  · cases h

theorem conv_up {H' : Heap} {src dst : TypeId} {x v : Value} (h : conv X H src dst x = some (v, H')) : Up H H' := by
  unfold conv at h
  split at h
  · split at h
    · cases h; exact Up.refl _
    · cases h; exact Up.refl _
    · split at h
      · split at h
        · cases h; exact Up.alloc _ _
        · cases h
      · cases h
    · split at h
      · split at h
        · split at h
          · cases h; exact Up.refl _
          · cases h
        · cases h
      · cases h
    · revert h
      cases Nat.beq src dst with
      | false => simp
      | true =>
        simp only [cond_true]
        intro h
        split at h
        · split at h
          · split at h
            · cases h; exact Up.refl _
            · cases h
          · cases h
        · cases h
    · cases h
  · cases h

theorem copy_up {H' : Heap} {dt : TypeId} {d s v : Value} (h : copy X H dt d s = some (v, H')) : Up H H' := by
  unfold copy at h
  split at h
  · split at h
    · split at h
      · rename_i dLen _ _ _ _ ie sl _ _
        simp only at h
        split at h
        · cases h
        · split at h
          · cases h; exact Up.refl _
          · revert h
            cases Nat.beq _ 0 with
            | true => simp only [cond_true]; intro h; cases h; exact Up.refl _
            | false =>
              simp only [cond_false]
              intro h
              split at h
              · rename_i hw; cases h; exact wrN_up hw
              · cases h
      · cases h
    · cases h
  · cases h

theorem delete_up {H' : Heap} {t : TypeId} {x k : Value} (h : delete X H t x k = some H') : Up H H' := by
  unfold delete at h
  split at h
  · split at h
    · revert h
      cases intKey X _ k with
      | false => simp
      | true =>
        simp only [cond_true]
        intro h
        split at h
        · split at h
          · rename_i hg
            split at h
            · cases h
            · cases h; exact Up.set hg _
            · cases h; exact Up.refl _
          · cases h
        · cases h
    · cases h
  · cases h

theorem mapUpdate_up {H' : Heap} {t : TypeId} {x k v : Value} (h : mapUpdate X H t x k v = some H') : Up H H' := by
  unfold mapUpdate at h
  split at h
  · split at h
    · revert h
      cases intKey X _ k with
      | false => simp
      | true =>
        simp only [cond_true]
        intro h
        split at h
        · split at h
          · rename_i hg
            split at h
            · cases h
            · cases h; exact Up.set hg _
            · cases h; exact Up.set hg _
          · cases h
        · cases h
    · cases h
  · cases h

theorem builtin_up {H' : Heap} {b : Builtin} {ats : List TypeId} {args : List Value} {v : Value} (h : builtin X H b ats args = some (v, H')) : Up H H' := by
  unfold builtin at h
  split at h
  · exact append_up h
  · exact copy_up h
  · split at h
    · cases h; exact Up.refl _
    · cases h
  · split at h
    · split at h
      · revert h
        cases Nat.blt _ unk with
        | false => simp
        | true => simp only [cond_true]; intro h; cases h; exact Up.refl _
      · cases h
    · cases h
  · split at h
    · rename_i hd; cases h; exact delete_up hd
    · cases h
  · split at h
    · cases h; exact Up.refl _
    · cases h
  · split at h
    · cases h; exact Up.refl _
    · cases h
  · cases h

theorem op_up {F : Frm} {H' : Heap} {o : Op} {v : Value} (h : op X F H o = some (v, H')) : Up H H' := by
  have only : ∀ {x : Option Value}, (match x with | some v => some (v, H) | none => none) = some (v, H') → Up H H' := by
    intro x hx
    cases x with
    | none => cases hx
    | some y => cases hx; exact Up.refl _
  cases o with
  | move x => cases h; exact Up.refl _
  | assign x => cases h; exact Up.refl _
  | pick c x y =>
    simp only [op] at h
    split at h
    · cases h; exact Up.refl _
    · cases h; exact Up.refl _
    · cases h
  | alloc e =>
    simp only [op] at h
    split at h
    · rename_i i _
      revert h
      cases Nat.beq i.zero.length i.size with
      | false => simp
      | true => simp only [cond_true]; intro h; cases h; exact Up.alloc _ _
    · cases h
  | box e x => cases h; exact Up.alloc _ _
  | build t ps => exact only h
  | buildSlice t n ps =>
    simp only [op, buildSlice] at h
    split at h
    · split at h
      · split at h
        · revert h
          cases (Nat.ble _ 16777216 && _ && _) with
          | false => simp
          | true =>
            simp only [cond_true]
            intro h
            split at h
            · cases h; exact Up.alloc _ _
            · cases h
        · cases h
      · cases h
    · cases h
  | load t x => exact only h
  | store t x y =>
    simp only [op] at h
    split at h
    · rename_i hs
      cases h
      unfold store at hs
      split at hs
      · split at hs
        · revert hs
          cases Nat.beq _ _ with
          | false => simp
          | true => simp only [cond_true]; intro hs; exact wrN_up hs
        · cases hs
      · cases hs
    · cases h
  | nilCheck x => exact only h
  | binOp b t x y t' => exact only h
  | unOp u t x => exact only h
  | convert s d x => exact conv_up h
  | makeFunc fn a c => cases h; exact Up.refl _
  | makeMap t r =>
    simp only [op] at h
    split at h
    · cases h; exact Up.alloc _ _
    · cases h
  | makeSlice t l c =>
    simp only [op, makeSlice] at h
    split at h
    · split at h
      · split at h
        · split at h
          · cases h; exact Up.alloc _ _
          · cases h
        · cases h
      · cases h
    · cases h
  | slice t x lo hi mx => exact only h
  | fieldAddr t x f => exact only h
  | field t x f => exact only h
  | indexAddr t x i => exact only h
  | index t x i => exact only h
  | lookup t m k ok => exact only h
  | mapUpdate t m k v =>
    simp only [op] at h
    split at h
    · rename_i hs; cases h; exact mapUpdate_up hs
    · cases h
  | extract x i => exact only h
  | call c =>
    simp only [op] at h
    split at h
    · exact builtin_up h
    · cases h
  | _ => cases h

end
end Ev
end Go.Proofs.Ytglkgmomnbdkoaa
