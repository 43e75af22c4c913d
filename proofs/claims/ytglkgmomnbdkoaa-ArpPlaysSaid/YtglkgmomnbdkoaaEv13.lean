/- Regions that draw their order: which may be run as they are written. -/
import Derived.Test.YtglkgmomnbdkoaaEv12
namespace Go.Proofs.Ytglkgmomnbdkoaa
namespace Ev

def Heap.le (H H' : Heap) : Prop := ∀ b B, H.get b = some B → H'.get b = some B
theorem Heap.le_refl (H : Heap) : H.le H := fun _ _ h => h
theorem Heap.le_trans {a b c : Heap} (h : a.le b) (h' : b.le c) : a.le c := fun x B hx => h' x B (h x B hx)

section
variable {X : Ctx}

theorem rd1_mono {H H' : Heap} (hle : H.le H') {a : Addr} {v : Value} (h : rd1 X H a = some v) : rd1 X H' a = some v := by
  unfold rd1 at h ⊢
  split at h
  · split at h
    · rename_i hg; rw [hle _ _ hg]; exact h
    · cases h
  · exact h
  · cases h

theorem rdN_mono {H H' : Heap} (hle : H.le H') {a : Addr} {n : Nat} {v : List Value} (h : rdN X H a n = some v) : rdN X H' a n = some v := by
  unfold rdN at h ⊢
  split at h
  · split at h
    · rename_i hg; rw [hle _ _ hg]; exact h
    · cases h
  · exact h
  · cases h

theorem load_mono {H H' : Heap} (hle : H.le H') {t : TypeId} {a v : Value} (h : load X H t a = some v) : load X H' t a = some v := by
  unfold load at h ⊢
  split at h
  · split at h
    · rename_i i hi
      cases hg : i.agg with
      | true =>
        simp only [hg, cond_true] at h ⊢
        split at h
        · rename_i l hl; rw [rdN_mono hle hl]; exact h
        · cases h
      | false =>
        simp only [hg, cond_false] at h ⊢
        exact rd1_mono hle h
    · cases h
  · cases h

theorem entries_mono {H H' : Heap} (hle : H.le H') {v : Value} {es : List MapEntry} (h : entries H v = some es) : entries H' v = some es := by
  unfold entries at h ⊢
  split at h
  · exact h
  · split at h
    · rename_i hg; rw [hle _ _ hg]; exact h
    · cases h
  · cases h

theorem lookup_mono {H H' : Heap} (hle : H.le H') {t : TypeId} {m k v : Value} {ok : Bool} (h : lookup X H t m k ok = some v) : lookup X H' t m k ok = some v := by
  unfold lookup at h ⊢
  split at h
  · split at h
    · rename_i kt et _
      cases hk : intKey X kt k with
      | false => simp [hk] at h
      | true =>
        simp only [hk, cond_true] at h ⊢
        split at h
        · cases h
        · rename_i es hes; rw [entries_mono hle hes]; exact h
    · cases h
  · cases h

theorem lenV_mono {H H' : Heap} (hle : H.le H') {t : TypeId} {x v : Value} (h : lenV X H t x = some v) : lenV X H' t x = some v := by
  unfold lenV at h ⊢
  split at h
  · split at h
    · exact h
    · exact h
    · exact h
    · split at h
      · rename_i es hes; rw [entries_mono hle hes]; exact h
      · cases h
    · cases h
  · cases h

theorem only_inv {H H' : Heap} {v : Value} {x : Option Value} (hx : (match x with | some v => some (v, H) | none => none) = some (v, H')) : x = some v ∧ H' = H := by
  cases x with
  | none => cases hx
  | some y => cases hx; exact ⟨rfl, rfl⟩

theorem builtin_min (H : Heap) (ats : List TypeId) (args : List Value) : builtin X H .min ats args = match (match args with | v :: l => mm false v l | [] => none) with | some v => some (v, H) | none => none := by
  cases args with
  | nil => cases ats <;> rfl
  | cons v l => cases ats <;> rfl

theorem builtin_len (H : Heap) (ats : List TypeId) (args : List Value) : builtin X H .len ats args = match (match ats, args with | t :: _, [x] => lenV X H t x | _, _ => none) with | some v => some (v, H) | none => none := by
  cases ats with
  | nil => cases args <;> rfl
  | cons t l => cases args with
    | nil => rfl
    | cons x k => cases k <;> rfl

theorem builtin_max (H : Heap) (ats : List TypeId) (args : List Value) : builtin X H .max ats args = match (match args with | v :: l => mm true v l | [] => none) with | some v => some (v, H) | none => none := by
  cases args with
  | nil => cases ats <;> rfl
  | cons v l => cases ats <;> rfl

/-- An operation that has nothing to do with memory. -/
theorem op_p {F : Frm} {H H' : Heap} {o : Op} {v : Value} (hc : cls X.tt o = .p) (h : op X F H o = some (v, H')) : H' = H ∧ ∀ H2, op X F H2 o = some (v, H2) := by
  have key : ∀ {x : Option Value}, (∀ H, op X F H o = match x with | some v => some (v, H) | none => none) → H' = H ∧ ∀ H2, op X F H2 o = some (v, H2) := by
    intro x hx
    rw [hx] at h
    obtain ⟨rfl, rfl⟩ := only_inv h
    exact ⟨rfl, fun H2 => by rw [hx]⟩
  cases o with
  | move x => cases h; exact ⟨rfl, fun _ => rfl⟩
  | assign x => cases h; exact ⟨rfl, fun _ => rfl⟩
  | pick c x y =>
    simp only [op] at h ⊢
    split at h
    · cases h; exact ⟨rfl, fun _ => rfl⟩
    · cases h; exact ⟨rfl, fun _ => rfl⟩
    · cases h
  | build t ps => exact key fun _ => rfl
  | nilCheck x => exact key fun _ => rfl
  | binOp b t x y t' => exact key fun _ => rfl
  | unOp u t x => exact key fun _ => rfl
  | makeFunc fn a c => cases h; exact ⟨rfl, fun _ => rfl⟩
  | slice t x lo hi mx => exact key fun _ => rfl
  | fieldAddr t x f => exact key fun _ => rfl
  | field t x f => exact key fun _ => rfl
  | indexAddr t x i => exact key fun _ => rfl
  | index t x i => exact key fun _ => rfl
  | extract x i => exact key fun _ => rfl
  | convert s d x =>
    simp only [cls] at hc
    split at hc
    · rename_i i hi
      split at hc
      · rename_i k hk
        simp only [op, conv] at h ⊢
        cases hs : X.tt.get s with
        | none => simp [hs] at h
        | some is =>
          simp only [hs, hi, hk] at h ⊢
          cases hx : F.eval x <;> simp only [hx] at h ⊢ <;> first | (cases h; exact ⟨rfl, fun _ => rfl⟩) | (cases hik : is.k <;> simp at h)
      · cases hc
      · cases hc
    · cases hc
  | call c =>
    obtain ⟨cal, args, ats⟩ := c
    simp only [cls] at hc
    split at hc
    · cases hc
    · refine key (x := match args.toList.map F.eval with | v :: l => mm false v l | [] => none) fun H => ?_
      simp only [op]
      exact builtin_min _ _ _
    · refine key (x := match args.toList.map F.eval with | v :: l => mm true v l | [] => none) fun H => ?_
      simp only [op]
      exact builtin_max _ _ _
    · cases hc
  | _ => cases hc

theorem cellsAt_mono {H H' : Heap} (hle : H.le H') {n : Nat} {x : Value} {l : List Value} (h : cellsAt X H n x = some l) : cellsAt X H' n x = some l := by
  unfold cellsAt at h ⊢
  split at h
  · cases hb : Nat.beq n 0 with
    | true => rw [hb] at h; exact h
    | false => rw [hb] at h; exact rdN_mono hle h
  · exact h
  · cases h

theorem conv_str_mono {H H' : Heap} {src dst : TypeId} {x v : Value} {i : TI} (hd : X.tt.get dst = some i) (hk : i.k = .str) (h : conv X H src dst x = some (v, H')) : H' = H ∧ ∀ H2, H.le H2 → conv X H2 src dst x = some (v, H2) := by
  unfold conv at h
  split at h
  · rename_i is i2 his hi
    rw [hd] at hi
    cases hi
    split at h
    · rename_i hk2; rw [hk] at hk2; cases hk2
    · rename_i hk1 hk2
      cases h
      exact ⟨rfl, fun H2 _ => by simp only [conv, his, hd, hk1, hk2]⟩
    · rename_i hk2; rw [hk] at hk2; cases hk2
    · rename_i e a l c hk1 hk2
      split at h
      · rename_i ie hie
        split at h
        · rename_i hke
          split at h
          · rename_i bs hbs
            cases h
            refine ⟨rfl, fun H2 hle => ?_⟩
            cases hcs : cellsAt X H l (.slice a l c) with
            | none => simp [hcs] at hbs
            | some cs =>
              simp only [hcs, Option.bind_some] at hbs
              simp only [conv, his, hd, hk1, hk2, hie, hke, cellsAt_mono hle hcs, Option.bind_some, hbs]
          · cases h
        · cases h
      · cases h
    · rename_i hk2; rw [hk] at hk2; cases hk2
    · cases h
  · cases h


/-- An operation that reads. -/
theorem op_r {F : Frm} {H H' : Heap} {o : Op} {v : Value} (hc : cls X.tt o = .r) (h : op X F H o = some (v, H')) : H' = H ∧ ∀ H2, H.le H2 → op X F H2 o = some (v, H2) := by
  cases o with
  | load t x =>
    obtain ⟨h1, rfl⟩ := only_inv h
    refine ⟨rfl, fun H2 hle => ?_⟩
    simp only [op]
    rw [load_mono hle h1]
  | lookup t m k ok =>
    obtain ⟨h1, rfl⟩ := only_inv h
    refine ⟨rfl, fun H2 hle => ?_⟩
    simp only [op]
    rw [lookup_mono hle h1]
  | convert s d x =>
    simp only [cls] at hc
    split at hc
    · rename_i i hi
      split at hc
      · cases hc
      · rename_i hk
        simp only [op] at h ⊢
        exact conv_str_mono hi hk h
      · cases hc
    · cases hc
  | call c =>
    obtain ⟨cal, args, ats⟩ := c
    simp only [cls] at hc
    split at hc
    · simp only [op] at h ⊢
      rw [builtin_len] at h
      obtain ⟨h1, rfl⟩ := only_inv h
      refine ⟨rfl, fun H2 hle => ?_⟩
      rw [builtin_len]
      split at h1
      · rw [lenV_mono hle h1]
      · cases h1
    · cases hc
    · cases hc
    · cases hc
  | _ => cases hc

/-- An operation that makes memory. -/
theorem op_a {F : Frm} {H H' : Heap} {o : Op} {v : Value} (hc : cls X.tt o = .a) (h : op X F H o = some (v, H')) : ∃ B, H' = H.alloc B ∧ ∀ H2 : Heap, H2.next = H.next → op X F H2 o = some (v, H2.alloc B) := by
  cases o with
  | alloc e =>
    simp only [op] at h
    split at h
    · rename_i i hi
      cases hb : Nat.beq i.zero.length i.size with
      | false => simp [hb] at h
      | true => simp only [hb, cond_true] at h; cases h; exact ⟨_, rfl, fun H2 e => by simp only [op, hi, hb, cond_true, newCells, e]⟩
    · cases h
  | box e x => cases h; exact ⟨_, rfl, fun H2 e => by simp only [op, newCells, e]⟩
  | buildSlice t n ps =>
    simp only [op, buildSlice] at h ⊢
    cases ht : X.tt.get t with
    | none => simp [ht] at h
    | some i =>
      simp only [ht] at h ⊢
      cases hk : i.k <;> simp only [hk, reduceCtorEq] at h ⊢
      rename_i e
      cases he : X.tt.get e with
      | none => simp [he] at h
      | some ie =>
        simp only [he] at h ⊢
        cases hb : (Nat.ble (n * ie.size) 16777216 && Nat.beq ie.zero.length ie.size && Nat.blt 0 ie.size) with
        | false => simp [hb] at h
        | true =>
          simp only [hb, cond_true] at h ⊢
          cases hf : fillL (fun j => some (j * ie.size, ie.size)) (repl ie.zero n) (ps.toList.map fun p => (p.1, F.eval p.2)) with
          | none => simp [hf] at h
          | some c =>
            simp only [hf] at h ⊢
            cases h
            exact ⟨_, rfl, fun H2 e => by rw [e]⟩
  | makeMap t r =>
    simp only [op] at h ⊢
    cases r with
    | some x => cases h
    | none =>
      cases ht : X.tt.get t with
      | none => simp [ht] at h
      | some i =>
        simp only [ht] at h ⊢
        cases h
        exact ⟨_, rfl, fun H2 e => by rw [e]⟩
  | makeSlice t l c =>
    simp only [op, makeSlice] at h ⊢
    cases ht : X.tt.get t with
    | none => simp [ht] at h
    | some i =>
      simp only [ht] at h ⊢
      cases hl : F.eval l <;> simp only [hl, reduceCtorEq] at h ⊢
      cases hcc : F.eval c <;> simp only [hcc, reduceCtorEq] at h ⊢
      cases hk : i.k <;> simp only [hk, reduceCtorEq] at h ⊢
      rename_i e
      cases he : X.tt.get e with
      | none => simp [he] at h
      | some ie =>
        simp only [he] at h ⊢
        split at h
        · rename_i hcond
          cases h
          exact ⟨_, rfl, fun H2 e => by rw [if_pos hcond, e]⟩
        · cases h
  | convert s d x =>
    simp only [cls] at hc
    split at hc
    · split at hc <;> cases hc
    · cases hc
  | call c =>
    obtain ⟨cal, args, ats⟩ := c
    simp only [cls] at hc
    split at hc <;> cases hc
  | _ => cases hc

/-- An operation looks at its operands alone. -/
theorem op_congr {F G : Frm} {H : Heap} {o : Op} (h : ∀ x ∈ o.operands.toList, F.eval x = G.eval x) : op X F H o = op X G H o := by
  cases o with
  | move x => simp only [Op.operands, List.mem_singleton, forall_eq] at h; simp only [op, h]
  | assign x => simp only [Op.operands, List.mem_singleton, forall_eq] at h; simp only [op, h]
  | pick c x y => simp [Op.operands] at h; simp only [op, h.1, h.2.1, h.2.2]
  | alloc e => rfl
  | box e x => simp only [Op.operands, List.mem_singleton, forall_eq] at h; simp only [op, h]
  | build t ps =>
    have : (ps.toList.map fun p => (p.1, F.eval p.2)) = ps.toList.map fun p => (p.1, G.eval p.2) := by
      apply List.map_congr_left
      intro p hp
      rw [h p.2 (by simp [Op.operands]; exact ⟨p.1, by simpa using hp⟩)]
    simp only [op, this]
  | buildSlice t n ps =>
    have : (ps.toList.map fun p => (p.1, F.eval p.2)) = ps.toList.map fun p => (p.1, G.eval p.2) := by
      apply List.map_congr_left
      intro p hp
      rw [h p.2 (by simp [Op.operands]; exact ⟨p.1, by simpa using hp⟩)]
    simp only [op, this]
  | load t x => simp only [Op.operands, List.mem_singleton, forall_eq] at h; simp only [op, h]
  | store t x y => simp [Op.operands] at h; simp only [op, h.1, h.2]
  | nilCheck x => simp only [Op.operands, List.mem_singleton, forall_eq] at h; simp only [op, h]
  | binOp b t x y t' => simp [Op.operands] at h; simp only [op, h.1, h.2]
  | unOp u t x => simp only [Op.operands, List.mem_singleton, forall_eq] at h; simp only [op, h]
  | convert s d x => simp only [Op.operands, List.mem_singleton, forall_eq] at h; simp only [op, h]
  | makeFunc fn a c =>
    have h1 : a.toList.map F.eval = a.toList.map G.eval := List.map_congr_left fun x hx => h x (by simp [Op.operands]; left; simpa using hx)
    have h2 : c.toList.map F.eval = c.toList.map G.eval := List.map_congr_left fun x hx => h x (by simp [Op.operands]; right; simpa using hx)
    simp only [op, h1, h2]
  | makeMap t r => rfl
  | makeSlice t l c => simp [Op.operands] at h; simp only [op, h.1, h.2]
  | slice t x lo hi mx =>
    have h0 := h x (by simp [Op.operands])
    have hl : lo.map F.eval = lo.map G.eval := by
      cases lo with
      | none => rfl
      | some y => simp only [Option.map_some]; rw [h y (by simp [Op.operands])]
    have hh : hi.map F.eval = hi.map G.eval := by
      cases hi with
      | none => rfl
      | some y => simp only [Option.map_some]; rw [h y (by simp [Op.operands])]
    have hm : mx.map F.eval = mx.map G.eval := by
      cases mx with
      | none => rfl
      | some y => simp only [Option.map_some]; rw [h y (by simp [Op.operands])]
    simp only [op, h0, hl, hh, hm]
  | fieldAddr t x f => simp only [Op.operands, List.mem_singleton, forall_eq] at h; simp only [op, h]
  | field t x f => simp only [Op.operands, List.mem_singleton, forall_eq] at h; simp only [op, h]
  | indexAddr t x i => simp [Op.operands] at h; simp only [op, h.1, h.2]
  | index t x i => simp [Op.operands] at h; simp only [op, h.1, h.2]
  | lookup t m k ok => simp [Op.operands] at h; simp only [op, h.1, h.2]
  | mapUpdate t m k v => simp [Op.operands] at h; simp only [op, h.1, h.2.1, h.2.2]
  | extract x i => simp only [Op.operands, List.mem_singleton, forall_eq] at h; simp only [op, h]
  | call c =>
    obtain ⟨cal, args, ats⟩ := c
    simp only [op]
    split
    · have : args.toList.map F.eval = args.toList.map G.eval := List.map_congr_left fun x hx => h x (by simp [Op.operands, Call.operands]; simpa using hx)
      rw [this]
    · rfl
  | _ => rfl

theorem step_congr {call : Call} {F G : Frm} {H : Heap} {o : Op} (h : ∀ x ∈ o.operands.toList, F.eval x = G.eval x) : step X call F H o = step X call G H o := by
  have hc : callee F o = callee G o := by
    cases o with
    | call c =>
      obtain ⟨cal, args, ats⟩ := c
      cases cal with
      | value f =>
        have h1 := h f (by simp [Op.operands, Call.operands])
        have h2 : args.toList.map F.eval = args.toList.map G.eval := List.map_congr_left fun x hx => h x (by simp [Op.operands, Call.operands]; right; simpa using hx)
        simp only [callee, h1, h2]
      | _ => rfl
    | _ => rfl
  unfold step
  rw [hc, op_congr h]

end

section
variable {P : Program} {X : Ctx} {S : Base} {m : Mu} {H : Heap} {w : World}

def Quiet (P : Program) (m : Mu) (w : World) (s : Sem Next) (v : Value) : Prop := ∃ v', VR m v v' ∧ s.run P w = .ok (.value v') w

theorem Gives.quiet {s : Sem Value} {v : Value} (h : Gives P m w s v) : Quiet P m w (do pure (.value (← s))) v := by
  obtain ⟨v', h1, h2⟩ := h
  exact ⟨v', h2, by rw [Sem.run_bind, h1]; rfl⟩

set_option maxHeartbeats 4000000 in
/-- What only computes or reads leaves the world as it is. -/
theorem opq_ok (htie : Tied P X) (hext : ExtOk X S) (hzero : ZeroOk X) (hr : Rel S m H w) {H' : Heap} {F : Frm} {a : Act} (hF : RelF m F a.tmps) {o : Oper} (hp : okOp o.op = true) {v : Value}
    (hc : cls X.tt o.op = .p ∨ cls X.tt o.op = .r) (h : op X F H o.op = some (v, H')) : Quiet P m w (execOp a.eval o) v := by
  obtain ⟨dst, o, ty, pos, after, guard⟩ := o
  simp only at hp h hc
  have hz := hzero.vrs m
  cases o with
  | move x =>
    simp only [okOp, Op.operands, List.all_cons, List.all_nil, Bool.and_true] at hp
    cases h
    exact ⟨a.eval x, hF.eval hp, rfl⟩
  | assign x =>
    simp only [okOp, Op.operands, List.all_cons, List.all_nil, Bool.and_true] at hp
    cases h
    exact ⟨a.eval x, hF.eval hp, rfl⟩
  | pick c x y =>
    simp only [okOp, Op.operands, List.all_cons, List.all_nil, Bool.and_true, Bool.and_eq_true] at hp
    simp only [op] at h
    have hc := hF.eval hp.1
    split at h
    · rename_i hcv; rw [hcv] at hc; cases h
      generalize hq : a.eval c = cv at hc
      cases hc
      exact ⟨a.eval x, hF.eval hp.2.1, by simp [execOp, hq, asBool]⟩
    · rename_i hcv; rw [hcv] at hc; cases h
      generalize hq : a.eval c = cv at hc
      cases hc
      exact ⟨a.eval y, hF.eval hp.2.2, by simp [execOp, hq, asBool]⟩
    · cases h
  | build t ps =>
    obtain ⟨h1, rfl⟩ := only_inv h
    have hp' : (ps.toList.all fun p => okO p.2) = true := by simpa [okOp, Op.operands, List.all_map] using hp
    have hpr : PR m (ps.toList.map fun p => (p.1, F.eval p.2)) (ps.map fun (i, x) => (i, a.eval x)).toList := by
      rw [Array.toList_map]
      exact PR_map hF _ hp'
    exact (build_ok htie h1 hpr (fun i hi => hz _ _ hi)).quiet
  | load t x =>
    simp only [okOp, Op.operands, List.all_cons, List.all_nil, Bool.and_true] at hp
    obtain ⟨h1, rfl⟩ := only_inv h
    exact Gives.quiet (s := Instr.loadAt t (a.eval x)) (load_ok htie hext hr h1 (hF.eval hp))
  | nilCheck x =>
    simp only [okOp, Op.operands, List.all_cons, List.all_nil, Bool.and_true] at hp
    obtain ⟨h1, rfl⟩ := only_inv h
    have hv := hF.eval hp
    unfold nilCheck at h1
    split at h1
    · rename_i ad he; rw [he] at hv; cases h1
      refine ⟨a.eval x, hv, ?_⟩
      generalize hq : a.eval x = xv at hv
      cases hv <;> simp [execOp, hq]
    · rename_i f first captured he; rw [he] at hv; cases h1
      refine ⟨a.eval x, hv, ?_⟩
      generalize hq : a.eval x = xv at hv
      cases hv <;> simp [execOp, hq]
    · cases h1
  | binOp b t x y t' =>
    simp only [okOp, Op.operands, List.all_cons, List.all_nil, Bool.and_true, Bool.and_eq_true] at hp
    obtain ⟨h1, rfl⟩ := only_inv h
    exact Gives.quiet (s := do eqGuard b t x y (a.eval x) (a.eval y); Go.binOp b t (a.eval x) (a.eval y)) (bin_ok htie h1 (hF.eval hp.1) (hF.eval hp.2) x y)
  | unOp u t x =>
    simp only [okOp, Op.operands, List.all_cons, List.all_nil, Bool.and_true] at hp
    obtain ⟨h1, rfl⟩ := only_inv h
    exact Gives.quiet (s := Op.unary u (a.eval x)) (un_ok h1 (hF.eval hp))
  | convert s d x =>
    simp only [okOp, Op.operands, List.all_cons, List.all_nil, Bool.and_true] at hp
    simp only [op, conv] at h
    have hx := hF.eval hp
    rcases hc with hc | hc
    · simp only [cls] at hc
      split at hc
      · rename_i i hi
        split at hc
        · rename_i k hk
          cases hs : X.tt.get s with
          | none => simp [hs] at h
          | some is =>
            obtain ⟨sd, s1, s2, s3, s4⟩ := run_underlying (htie.tt _ _ hs) w
            obtain ⟨dd, d1, d2, d3, d4⟩ := run_underlying (htie.tt _ _ hi) w
            rw [hk] at d2
            have := tkOf_int d2; subst this
            simp only [hs, hi, hk] at h
            generalize hq : a.eval x = xv at hx
            cases hx' : F.eval x <;> rw [hx'] at h hx <;> simp only [] at h <;> first | (cases hik : is.k <;> simp at h; done) | skip
            rename_i k1 n
            cases h; cases hx
            exact ⟨.int k (wrapF k n), .int _ _, by simp [execOp, hq, Go.convert, s1, d1, Conv.intToInt, wrapF_eq]⟩
        · cases hc
        · cases hc
      · cases hc
    · simp only [cls] at hc
      split at hc
      · rename_i i hi
        split at hc
        · cases hc
        · rename_i hk
          obtain ⟨v', h1, h2⟩ := conv_str htie hext hr hi hk (by unfold conv; exact h) hx
          exact ⟨v', h1, by simp only [execOp]; rw [Sem.run_bind, h2]; rfl⟩
        · cases hc
      · cases hc
  | makeFunc fn first captured =>
    cases h
    have hp' : first.toList.all okO = true ∧ captured.toList.all okO = true := by simpa [okOp, Op.operands, List.all_append] using hp
    refine ⟨.func fn (first.map a.eval) (captured.map a.eval), .func fn ?_ ?_, by simp [execOp, Instr.makeFunc]⟩
    · rw [Array.toList_map]; exact hF.evals hp'.1
    · rw [Array.toList_map]; exact hF.evals hp'.2
  | slice t x lo hi mx =>
    obtain ⟨h1, rfl⟩ := only_inv h
    have hp' : okO x = true ∧ (∀ y, lo = some y → okO y = true) ∧ (∀ y, hi = some y → okO y = true) ∧ (∀ y, mx = some y → okO y = true) := by
      simp only [okOp, Op.operands] at hp
      cases lo <;> cases hi <;> cases mx <;> simp_all
    exact Gives.quiet (s := Instr.sliceAt t (a.eval x) (lo.map a.eval) (hi.map a.eval) (mx.map a.eval)) (slice_ok htie h1 (hF.eval hp'.1) (OR_map hF _ hp'.2.1) (OR_map hF _ hp'.2.2.1) (OR_map hF _ hp'.2.2.2))
  | fieldAddr t x f =>
    simp only [okOp, Op.operands, List.all_cons, List.all_nil, Bool.and_true] at hp
    obtain ⟨h1, rfl⟩ := only_inv h
    exact Gives.quiet (s := Instr.fieldAt t (a.eval x) f) (fieldAddr_ok htie h1 (hF.eval hp))
  | field t x f =>
    simp only [okOp, Op.operands, List.all_cons, List.all_nil, Bool.and_true] at hp
    obtain ⟨h1, rfl⟩ := only_inv h
    exact Gives.quiet (s := Instr.field t (a.eval x) f) (field_ok htie h1 (hF.eval hp))
  | indexAddr t x i =>
    simp only [okOp, Op.operands, List.all_cons, List.all_nil, Bool.and_true, Bool.and_eq_true] at hp
    obtain ⟨h1, rfl⟩ := only_inv h
    exact Gives.quiet (s := Instr.indexAt t (a.eval x) (a.eval i)) (indexAddr_ok htie h1 (hF.eval hp.1) (hF.eval hp.2))
  | index t x i =>
    simp only [okOp, Op.operands, List.all_cons, List.all_nil, Bool.and_true, Bool.and_eq_true] at hp
    obtain ⟨h1, rfl⟩ := only_inv h
    exact Gives.quiet (s := Instr.index t (a.eval x) (a.eval i)) (index_ok htie h1 (hF.eval hp.1) (hF.eval hp.2))
  | lookup t x k ok =>
    simp only [okOp, Op.operands, List.all_cons, List.all_nil, Bool.and_true, Bool.and_eq_true] at hp
    obtain ⟨h1, rfl⟩ := only_inv h
    exact Gives.quiet (s := Instr.lookup t (a.eval x) (a.eval k) ok) (lookup_ok htie hr h1 (hF.eval hp.1) (hF.eval hp.2) hz)
  | extract x i =>
    simp only [okOp, Op.operands, List.all_cons, List.all_nil, Bool.and_true] at hp
    obtain ⟨h1, rfl⟩ := only_inv h
    have hv := hF.eval hp
    unfold extract at h1
    split at h1
    · rename_i vs he
      rw [he] at hv
      rw [getN_eq] at h1
      generalize hq : a.eval x = xv at hv
      cases hv with
      | @tuple _ a' hvs =>
        obtain ⟨v', k1, k2⟩ := hvs.get h1
        refine ⟨v', k2, ?_⟩
        rw [Array.getElem?_toList] at k1
        simp [execOp, hq, Instr.extract, k1]
    · cases h1
  | call c =>
    obtain ⟨cal, args, ats⟩ := c
    simp only [op] at h
    have hb : ∃ b, cal = .builtin b ∧ (b = .len ∨ b = .min ∨ b = .max) := by
      rcases hc with hc | hc
      · simp only [cls] at hc
        split at hc
        · cases hc
        · exact ⟨_, rfl, .inr (.inl rfl)⟩
        · exact ⟨_, rfl, .inr (.inr rfl)⟩
        · cases hc
      · simp only [cls] at hc
        split at hc
        · exact ⟨_, rfl, .inl rfl⟩
        · cases hc
        · cases hc
        · cases hc
    obtain ⟨b, rfl, hb⟩ := hb
    simp only at h
    have hp' : args.toList.all okO = true := by simpa [okOp, Op.operands, Call.operands] using hp
    have hargs := hF.evals hp'
    have hmap : (args.toList.map a.eval).toArray = args.map a.eval := by
      apply Array.toList_inj.1
      rw [Array.toList_map]
    generalize args.toList.map F.eval = l at h hargs
    rcases hb with rfl | rfl | rfl
    · rw [builtin_len] at h
      obtain ⟨h1, rfl⟩ := only_inv h
      split at h1
      · rename_i t ts x hats
        obtain ⟨x', hl', hx⟩ := hargs.inv1
        have : ats = (t :: ts).toArray := by apply Array.toList_inj.1; rw [hats]
        subst this
        have := (lenV_ok (ty := ty) htie hr h1 hx ts).quiet
        have he : args.map a.eval = #[x'] := by rw [← hmap, hl']
        show Quiet P m w (Go.builtin .len _ ty (args.map fun | .const _ => true | _ => false) (args.map a.eval)) v
        rw [he]
        exact this
      · cases h1
    · rw [builtin_min] at h
      obtain ⟨h1, rfl⟩ := only_inv h
      split at h1
      · rename_i v0 l0
        generalize hq : args.toList.map a.eval = l' at hargs hmap
        cases hargs with
        | cons q1 q2 =>
          have := mm_ok (P := P) (w := w) h1 q1 q2
          simp only [Bool.false_eq_true, if_false] at this
          show Quiet P m w (Go.builtin .min ats ty (args.map fun | .const _ => true | _ => false) (args.map a.eval)) v
          rw [← hmap]
          exact this.quiet
      · cases h1
    · rw [builtin_max] at h
      obtain ⟨h1, rfl⟩ := only_inv h
      split at h1
      · rename_i v0 l0
        generalize hq : args.toList.map a.eval = l' at hargs hmap
        cases hargs with
        | cons q1 q2 =>
          have := mm_ok (P := P) (w := w) h1 q1 q2
          simp only [if_true] at this
          show Quiet P m w (Go.builtin .max ats ty (args.map fun | .const _ => true | _ => false) (args.map a.eval)) v
          rw [← hmap]
          exact this.quiet
      · cases h1
  | _ => rcases hc with hc | hc <;> cases hc

end
end Ev
end Go.Proofs.Ytglkgmomnbdkoaa
