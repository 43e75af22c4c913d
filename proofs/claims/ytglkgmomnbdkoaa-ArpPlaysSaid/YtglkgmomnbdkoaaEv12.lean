/- Rows of operations, calls, and code: the evaluator's and the model's. -/
import Derived.Test.YtglkgmomnbdkoaaEv11
import Derived.LoopN
namespace Go.Proofs.Ytglkgmomnbdkoaa
namespace Ev

section
variable {P : Program} {X : Ctx}

/-- What a call comes to is what the program's call comes to. -/
def CallOk (P : Program) (X : Ctx) (call : Call) : Prop :=
  ∀ f args H v H', call f args H = some (v, H') → Up H H' ∧ ∀ S m w (args' : Array Value), ExtOk X S → Rel S m H w → Free H H' m → VRs m args args'.toList →
    (∃ fn, P.funcs[f]? = some fn ∧ fn.body.isSome = true ∧ (fn.name == "runtime.NumGoroutine") = false) ∧
    Calls P f args' w (fun e w' => ∃ m' v', e = .returned v' ∧ Grow H H' m m' ∧ VR m' v v' ∧ Rel S m' H' w')

theorem step_up {call : Call} (hcall : CallOk P X call) {F : Frm} {H H' : Heap} {o : Op} {v : Value} (h : step X call F H o = some (v, H')) : Up H H' := by
  unfold step at h
  split at h
  · exact (hcall _ _ _ _ _ h).1
  · exact op_up h

theorem run1_up {call : Call} (hcall : CallOk P X call) {all : List Oper} {o : Oper} {F F' : Frm} {H H' : Heap} (h : run1 X call all o F H = some (F', H')) : Up H H' := by
  unfold run1 at h
  revert h
  cases wantedBy F all o with
  | true =>
    simp only [cond_true]
    intro h
    split at h
    · rename_i hs
      split at h
      · cases h; exact step_up hcall hs
      · cases h
    · cases h
  | false =>
    simp only [cond_false]
    intro h
    split at h
    · cases h; exact Up.refl _
    · cases h

theorem runL_up {call : Call} (hcall : CallOk P X call) {all : List Oper} : ∀ {l : List Oper} {F F' : Frm} {H H' : Heap}, runL X call all l F H = some (F', H') → Up H H' := by
  intro l
  induction l with
  | nil => intro F F' H H' h; simp only [runL] at h; cases h; exact Up.refl _
  | cons o l ih =>
    intro F F' H H' h
    simp only [runL] at h
    split at h
    · rename_i h1; exact (run1_up hcall h1).trans (ih h)
    · cases h

theorem callFunc_run {f : FuncId} {fn : Func} {args : Array Value} {w : World} (h1 : P.funcs[f]? = some fn) (h2 : fn.body.isSome = true) (h3 : (fn.name == "runtime.NumGoroutine") = false) :
    (callFunc f args).run P w = .ok (.enter f args) w := by
  have h4 : fn.body.isNone = false := by cases hb : fn.body <;> simp [hb] at h2 ⊢
  simp only [callFunc, Sem.run_bind, run_program, Result.andThen_ok, h1]
  simp only [h3, Bool.false_eq_true, if_false, h4, Sem.run_pure]

theorem step_ok (htie : Tied P X) (hzero : ZeroOk X) {call : Call} (hcall : CallOk P X call) {S : Base} {m : Mu} {H H' : Heap} {w : World} (hext : ExtOk X S) (hr : Rel S m H w) (hfree : Free H H' m)
    {F : Frm} {a : Act} (hF : RelF m F a.tmps) {o : Oper} (hp : okOp o.op = true) {v : Value} (h : step X call F H o.op = some (v, H'))
    {next : Act → World → Prop} {Q : Exit → Act → World → Prop} (hn : ∀ m' v' w', Grow H H' m m' → VR m' v v' → Rel S m' H' w' → next (a.put o.dst v') w') : o.wp P a w next Q := by
  unfold Oper.wp
  unfold step at h
  split at h
  · rename_i f args hc
    obtain ⟨dst, o, ty, pos, after, guard⟩ := o
    simp only at hc hp hn
    unfold callee at hc
    split at hc
    · rename_i c
      split at hc
      · rename_i fo hfo
        split at hc
        · rename_i g first captured hev
          cases hc
          obtain ⟨cal, cargs, ats⟩ := c
          simp only at hfo
          subst hfo
          have hp' : okO fo = true ∧ cargs.toList.all okO = true := by simpa [okOp, Op.operands, Call.operands] using hp
          have hv := hF.eval hp'.1
          rw [hev] at hv
          generalize hq : a.eval fo = fv at hv
          cases hv with
          | @func _ _ first' _ captured' h1 h2 =>
            have hargs := hF.evals hp'.2
            have hall : VRs m (first.toList ++ cargs.toList.map F.eval ++ captured.toList) (first' ++ cargs.map a.eval ++ captured').toList := by
              simp only [Array.toList_append, Array.toList_map]
              exact (h1.append hargs).append h2
            obtain ⟨⟨fn, f1, f2, f3⟩, hcalls⟩ := (hcall _ _ _ _ _ h).2 S m w _ hext hr hfree hall
            have hrun : (execOp a.eval ⟨dst, .call ⟨.value fo, cargs, ats⟩, ty, pos, after, guard⟩).run P w = .ok (.enter f (first' ++ cargs.map a.eval ++ captured')) w := by
              simp only [execOp, Sem.run_bind, resolve, Deferred.ofValue, hq, Sem.run_pure, Result.andThen_ok, invoke]
              exact callFunc_run f1 f2 f3
            rw [hrun, Oper.upon_enter]
            refine hcalls.mono ?_
            rintro e w' ⟨m', v', rfl, q1, q2, q3⟩
            exact hn m' v' w' q1 q2 q3
        · cases hc
      · cases hc
    · cases hc
  · obtain ⟨m', v', w', q1, q2, q3, q4⟩ := op_ok htie hext hzero hr hfree hF hp h
    rcases q4 with q4 | ⟨q4, rfl⟩
    · rw [q4, Oper.upon_value]; exact hn m' v' w' q1 q2 q3
    · rw [q4, Oper.upon_skip]; exact hn m' _ w' q1 q2 q3

theorem wanted_ok {m : Mu} {F : Frm} {a : Act} (hF : RelF m F a.tmps) (ops : Array Oper) (o : Oper) : Region.wanted o (yielded ops a.tmps) = wantedBy F ops.toList o := by
  unfold Region.wanted wantedBy
  cases o.guard with
  | none => rfl
  | some p =>
    obtain ⟨j, want⟩ := p
    simp only
    rw [getN_eq, Array.getElem?_toList]
    unfold yielded
    cases ops[j]? with
    | none => rfl
    | some g =>
      simp only [Option.bind_some]
      cases g.dst with
      | none => rfl
      | some d =>
        simp only [Option.bind_some]
        have hv := hF.val d
        cases ht : F.t.get d with
        | none =>
          rw [ht] at hv
          cases hc : a.tmps[d]? with
          | none => rfl
          | some v =>
            simp only [Option.getD_none, Array.getD_eq_getD_getElem?, hc, Option.getD_some] at hv
            unfold undef at hv
            cases hv
            rfl
        | some u =>
          rw [ht] at hv
          cases hc : a.tmps[d]? with
          | none =>
            simp only [Option.getD_some, Array.getD_eq_getD_getElem?, hc, Option.getD_none] at hv
            unfold undef at hv
            cases hv
            rfl
          | some v =>
            simp only [Option.getD_some, Array.getD_eq_getD_getElem?, hc] at hv
            cases hv <;> first | rfl | (rename_i b; cases b <;> cases want <;> rfl)

theorem act_put_defers (a : Act) (d : Option Tmp) (v : Value) : (a.put d v).defers = a.defers := by cases d <;> rfl

/-- One operation, wanted or not. -/
theorem run1_ok (htie : Tied P X) (hzero : ZeroOk X) {call : Call} (hcall : CallOk P X call) {S : Base} {m : Mu} {H H' : Heap} {w : World} (hext : ExtOk X S) (hr : Rel S m H w) (hfree : Free H H' m)
    {F F' : Frm} {a : Act} (hF : RelF m F a.tmps) {ops : Array Oper} {i : Nat} {o : Oper} (ho : ops[i]? = some o) (hp : okOp o.op = true) (h : run1 X call ops.toList o F H = some (F', H'))
    {next : Act → World → Prop} {Q : Exit → Act → World → Prop} (hn : ∀ m' a' w', Grow H H' m m' → RelF m' F' a'.tmps → a'.defers = a.defers → Rel S m' H' w' → next a' w') : wpOp P ops Q i next a w := by
  unfold wpOp
  simp only [ho]
  rw [wanted_ok hF]
  unfold run1 at h
  cases hw : wantedBy F ops.toList o with
  | true =>
    simp only [hw, cond_true] at h
    rw [if_pos rfl]
    left
    split at h
    · rename_i v H1 hs
      split at h
      · rename_i F1 hput
        cases h
        refine step_ok htie hzero hcall hext hr hfree hF hp hs ?_
        intro m' v' w' q1 q2 q3
        exact hn m' _ w' q1 ((hF.mono q1.le).put q2 hput) (act_put_defers _ _ _) q3
      · cases h
    · cases h
  | false =>
    simp only [hw, cond_false] at h
    rw [if_neg (by simp)]
    split at h
    · rename_i F1 hput
      cases h
      exact hn m _ w .of_next (hF.put (.undef m) hput) (act_put_defers _ _ _) hr
    · cases h

theorem runL_ok (htie : Tied P X) (hzero : ZeroOk X) {call : Call} (hcall : CallOk P X call) {S : Base} {ops : Array Oper} (hp : (ops.toList.all fun o => okOp o.op) = true)
    {Q : Exit → Act → World → Prop} (hext : ExtOk X S) : ∀ (l : List Oper) (k : Nat), ops.toList.drop k = l → ∀ {m : Mu} {H H' : Heap} {w : World} {F F' : Frm} {a : Act}, Rel S m H w → Free H H' m → RelF m F a.tmps →
    runL X call ops.toList l F H = some (F', H') → (∀ m' a' w', Grow H H' m m' → RelF m' F' a'.tmps → a'.defers = a.defers → Rel S m' H' w' → Q .normal a' w') →
    wpOps P ops Q (List.range' k l.length) a w := by
  intro l
  induction l with
  | nil =>
    intro k hk m H H' w F F' a hr hfree hF h hn
    simp only [runL] at h; cases h
    simp only [List.length_nil, List.range'_zero, wpOps]
    exact hn m a w .of_next hF rfl hr
  | cons o l ih =>
    intro k hk m H H' w F F' a hr hfree hF h hn
    simp only [runL] at h
    split at h
    · rename_i F1 H1 h1
      have hget : ops.toList[k]? = some o := by
        have : (ops.toList.drop k)[0]? = some o := by rw [hk]; rfl
        simpa using this
      have ho : ops[k]? = some o := by simpa using hget
      have hok : okOp o.op = true := List.all_eq_true.1 hp o (List.mem_of_getElem? hget)
      rw [List.length_cons, List.range'_succ, wpOps_cons]
      have u1 := run1_up hcall h1
      have u2 := runL_up hcall h
      refine run1_ok htie hzero hcall hext hr (hfree.left u2.1) hF ho hok h1 ?_
      intro m1 a1 w1 q1 q2 q3 q4
      refine ih (k + 1) ?_ q4 (hfree.right q1 u1.1) q2 h ?_
      · rw [← List.drop_drop, hk]; rfl
      · intro m' a' w' r1 r2 r3 r4
        exact hn m' a' w' (q1.trans r1 u1.1 u2.1) r2 (r3.trans q3) r4
    · cases h

def exOf : Ex → Exit
  | .normal => .normal
  | .exit id => .exit id
  | .ret => .ret

/-- All that the evaluator may go through: plain constants, and regions that draw in one of the ways that are proved. -/
def okCode (simple : List Oper → Bool) : Code → Bool
  | .skip | .ret | .exit _ | .label _ => true
  | .seq a b => okCode simple a && okCode simple b
  | .cond x a b => okO x && okCode simple a && okCode simple b
  | .block _ b => okCode simple b
  | .loop b => okCode simple b
  | .region _ ops draw => (ops.toList.all fun o => okOp o.op) && (!draw || simple ops.toList)
  | _ => false

/-- A code's wp; a loop's by so many rounds. -/
def WP (P : Program) (n : Nat) (Q : Exit → Act → World → Prop) (c : Code) (a : Act) (w : World) : Prop :=
  match c with
  | .loop b => Code.rounds P b Q n a w
  | c => c.wp P Q a w

theorem WP.wp {n : Nat} {Q : Exit → Act → World → Prop} {c : Code} {a : Act} {w : World} (h : WP P n Q c a w) : c.wp P Q a w := by
  cases c with
  | loop b => exact wp_loop_rounds n h
  | _ => exact h

def CodeOk (P : Program) (X : Ctx) (simple : List Oper → Bool) (n : Nat) (go : Code → Frm → Heap → Option Out) : Prop :=
  ∀ c F H (out : Out), go c F H = some out → okCode simple c = true → Up H out.H ∧ ∀ S m w (a : Act), ExtOk X S → Rel S m H w → Free H out.H m → RelF m F a.tmps → ∀ Q : Exit → Act → World → Prop,
    (∀ m' a' w', Grow H out.H m m' → Rel S m' out.H w' → RelF m' out.F a'.tmps → a'.defers = a.defers → Q (exOf out.e) a' w') → WP P n Q c a w

/-- Regions that draw their order. -/
def DrawOk (P : Program) (X : Ctx) (simple : List Oper → Bool) (draw : Call → List Oper → Frm → Heap → Option (Frm × Heap)) : Prop :=
  ∀ call, CallOk P X call → ∀ ops : Array Oper, (ops.toList.all fun o => okOp o.op) = true → simple ops.toList = true → ∀ F H F' H', draw call ops.toList F H = some (F', H') →
    Up H H' ∧ ∀ S m w (a : Act), ExtOk X S → Rel S m H w → Free H H' m → RelF m F a.tmps → ∀ (id : Nat) (Q : Exit → Act → World → Prop),
    (∀ m' a' w', Grow H H' m m' → RelF m' F' a'.tmps → a'.defers = a.defers → Rel S m' H' w' → Q .normal a' w') → (Code.region id ops true).wp P Q a w

theorem codeStep_ok (htie : Tied P X) (hzero : ZeroOk X) {simple : List Oper → Bool} {draw : Call → List Oper → Frm → Heap → Option (Frm × Heap)} (hdraw : DrawOk P X simple draw)
    {go : Code → Frm → Heap → Option Out} {n : Nat} (hcall : CallOk P X (callOf X go)) (hgo : CodeOk P X simple n go) : CodeOk P X simple (n + 1) (codeStep X go draw) := by
  intro c F H out h hok
  cases c with
  | skip => cases h; exact ⟨Up.refl _, fun S m w a hext hr hfree hF Q hQ => wp_skip (hQ m a w .of_next hr hF rfl)⟩
  | label l => cases h; exact ⟨Up.refl _, fun S m w a hext hr hfree hF Q hQ => wp_label (hQ m a w .of_next hr hF rfl)⟩
  | ret => cases h; exact ⟨Up.refl _, fun S m w a hext hr hfree hF Q hQ => wp_ret (hQ m a w .of_next hr hF rfl)⟩
  | exit id => cases h; exact ⟨Up.refl _, fun S m w a hext hr hfree hF Q hQ => wp_exit (hQ m a w .of_next hr hF rfl)⟩
  | seq x y =>
    simp only [okCode, Bool.and_eq_true] at hok
    simp only [codeStep] at h
    split at h
    · rename_i F1 H1 h1
      obtain ⟨u1, k1⟩ := hgo _ _ _ _ h1 hok.1
      obtain ⟨u2, k2⟩ := hgo _ _ _ _ h hok.2
      refine ⟨u1.trans u2, fun S m w a hext hr hfree hF Q hQ => ?_⟩
      show (Code.seq x y).wp P Q a w
      refine wp_seq ?_
      refine (k1 S m w a hext hr (hfree.left u2.1) hF _ ?_).wp
      intro m1 a1 w1 q1 q2 q3 q4
      refine (k2 S m1 w1 a1 hext q2 (hfree.right q1 u1.1) q3 _ ?_).wp
      intro m' a' w' r1 r2 r3 r4
      exact hQ m' a' w' (q1.trans r1 u1.1 u2.1) r2 r3 (r4.trans q4)
    · rename_i hne
      obtain ⟨u1, k1⟩ := hgo _ _ _ _ h hok.1
      refine ⟨u1, fun S m w a hext hr hfree hF Q hQ => ?_⟩
      show (Code.seq x y).wp P Q a w
      refine wp_seq ?_
      refine (k1 S m w a hext hr hfree hF _ ?_).wp
      intro m1 a1 w1 q1 q2 q3 q4
      have := hQ m1 a1 w1 q1 q2 q3 q4
      cases he : out.e with
      | normal =>
        exfalso
        obtain ⟨e, F1, H1⟩ := out
        simp only at he
        subst he
        exact hne _ _ h
      | exit id => rw [he] at this; exact this
      | ret => rw [he] at this; exact this
  | cond x y z =>
    simp only [okCode, Bool.and_eq_true] at hok
    simp only [codeStep] at h
    split at h
    · rename_i hx
      obtain ⟨u1, k1⟩ := hgo _ _ _ _ h hok.1.2
      refine ⟨u1, fun S m w a hext hr hfree hF Q hQ => ?_⟩
      have hv := hF.eval hok.1.1
      rw [hx] at hv
      generalize hq : a.eval x = xv at hv
      cases hv
      exact wp_cond_true hq (k1 S m w a hext hr hfree hF _ hQ).wp
    · rename_i hx
      obtain ⟨u1, k1⟩ := hgo _ _ _ _ h hok.2
      refine ⟨u1, fun S m w a hext hr hfree hF Q hQ => ?_⟩
      have hv := hF.eval hok.1.1
      rw [hx] at hv
      generalize hq : a.eval x = xv at hv
      cases hv
      exact wp_cond_false hq (k1 S m w a hext hr hfree hF _ hQ).wp
    · cases h
  | block id b =>
    simp only [okCode] at hok
    simp only [codeStep] at h
    split at h
    · rename_i j F1 H1 h1
      obtain ⟨u1, k1⟩ := hgo _ _ _ _ h1 hok
      cases hj : Nat.beq j id with
      | true =>
        have hj' := Nat.eq_of_beq_eq_true hj
        simp only [hj, cond_true] at h
        cases h
        refine ⟨u1, fun S m w a hext hr hfree hF Q hQ => ?_⟩
        show (Code.block id b).wp P Q a w
        refine wp_block ?_
        refine (k1 S m w a hext hr hfree hF _ ?_).wp
        intro m1 a1 w1 q1 q2 q3 q4
        simp only [exOf, Exit.inBlock, hj', if_true]
        exact hQ m1 a1 w1 q1 q2 q3 q4
      | false =>
        have hj' : j ≠ id := by intro e; subst e; simp at hj
        simp only [hj, cond_false] at h
        cases h
        refine ⟨u1, fun S m w a hext hr hfree hF Q hQ => ?_⟩
        show (Code.block id b).wp P Q a w
        refine wp_block ?_
        refine (k1 S m w a hext hr hfree hF _ ?_).wp
        intro m1 a1 w1 q1 q2 q3 q4
        simp only [exOf, Exit.inBlock, hj', if_false]
        exact hQ m1 a1 w1 q1 q2 q3 q4
    · rename_i hne
      obtain ⟨u1, k1⟩ := hgo _ _ _ _ h hok
      refine ⟨u1, fun S m w a hext hr hfree hF Q hQ => ?_⟩
      show (Code.block id b).wp P Q a w
      refine wp_block ?_
      refine (k1 S m w a hext hr hfree hF _ ?_).wp
      intro m1 a1 w1 q1 q2 q3 q4
      have := hQ m1 a1 w1 q1 q2 q3 q4
      cases he : out.e with
      | exit id' =>
        exfalso
        obtain ⟨e, F1, H1⟩ := out
        simp only at he
        subst he
        exact hne _ _ _ h
      | normal => rw [he] at this; exact this
      | ret => rw [he] at this; exact this
  | loop b =>
    simp only [okCode] at hok
    simp only [codeStep] at h
    split at h
    · rename_i F1 H1 h1
      obtain ⟨u1, k1⟩ := hgo _ _ _ _ h1 hok
      obtain ⟨u2, k2⟩ := hgo _ _ _ _ h (by simpa [okCode] using hok)
      refine ⟨u1.trans u2, fun S m w a hext hr hfree hF Q hQ => ?_⟩
      show Code.rounds P b Q (n + 1) a w
      rw [rounds_succ]
      refine (k1 S m w a hext hr (hfree.left u2.1) hF _ ?_).wp
      intro m1 a1 w1 q1 q2 q3 q4
      have := k2 S m1 w1 a1 hext q2 (hfree.right q1 u1.1) q3 Q (fun m' a' w' r1 r2 r3 r4 => hQ m' a' w' (q1.trans r1 u1.1 u2.1) r2 r3 (r4.trans q4))
      exact this
    · rename_i hne
      obtain ⟨u1, k1⟩ := hgo _ _ _ _ h hok
      refine ⟨u1, fun S m w a hext hr hfree hF Q hQ => ?_⟩
      show Code.rounds P b Q (n + 1) a w
      rw [rounds_succ]
      refine (k1 S m w a hext hr hfree hF _ ?_).wp
      intro m1 a1 w1 q1 q2 q3 q4
      have := hQ m1 a1 w1 q1 q2 q3 q4
      cases he : out.e with
      | normal =>
        exfalso
        obtain ⟨e, F1, H1⟩ := out
        simp only at he
        subst he
        exact hne _ _ h
      | exit id => rw [he] at this; exact this
      | ret => rw [he] at this; exact this
  | region id ops draw0 =>
    simp only [okCode, Bool.and_eq_true] at hok
    cases draw0 with
    | false =>
      simp only [codeStep] at h
      split at h
      · rename_i F1 H1 h1
        cases h
        refine ⟨runL_up hcall h1, fun S m w a hext hr hfree hF Q hQ => ?_⟩
        show (Code.region id ops false).wp P Q a w
        refine wp_region ?_
        have := runL_ok htie hzero hcall hok.1 hext (Q := Q) ops.toList 0 rfl hr hfree hF h1 (fun m' a' w' q1 q2 q3 q4 => hQ m' a' w' q1 q4 q2 q3)
        rw [List.range_eq_range']
        simpa using this
      · cases h
    | true =>
      simp only [codeStep] at h
      split at h
      · rename_i F1 H1 h1
        cases h
        obtain ⟨u1, k1⟩ := hdraw _ hcall ops hok.1 (by simpa using hok.2) _ _ _ _ h1
        exact ⟨u1, fun S m w a hext hr hfree hF Q hQ => k1 S m w a hext hr hfree hF id Q (fun m' a' w' q1 q2 q3 q4 => hQ m' a' w' q1 q4 q2 q3)⟩
      · cases h
  | _ => cases hok

def resS (tmps : Array Value) : ResultVar → Sem Value
  | .tmp t => pure (tmps.getD t undef)
  | .cell a t => do loadVar t (← asAddr (tmps.getD a undef))

theorem resV_ok {S : Base} {m : Mu} {H : Heap} {w : World} (htie : Tied P X) (hext : ExtOk X S) (hr : Rel S m H w) {F : Frm} {tmps : Array Value} (hF : RelF m F tmps) {r : ResultVar} {v : Value}
    (h : resV X F H r = some v) : Gives P m w (resS tmps r) v := by
  cases r with
  | tmp t => simp only [resV] at h; cases h; exact ⟨_, by simp [resS], hF.val t⟩
  | cell a t =>
    simp only [resV] at h
    obtain ⟨v', h1, h2⟩ := load_ok htie hext hr h (hF.val a)
    refine ⟨v', ?_, h2⟩
    have hv := hF.val a
    unfold load at h
    split at h
    · rename_i ad he
      rw [he] at hv
      generalize hq : tmps.getD a undef = xv at hv h1
      cases hv <;> simpa [resS, hq, Instr.loadAt, Instr.sureAddr, asAddr] using h1
    · cases h

theorem resL_ok {S : Base} {m : Mu} {H : Heap} {w : World} (htie : Tied P X) (hext : ExtOk X S) (hr : Rel S m H w) {F : Frm} {tmps : Array Value} (hF : RelF m F tmps) : ∀ {rs : List ResultVar} {l : List Value},
    resL X F H rs = some l → ∃ l', (rs.mapM (resS tmps)).run P w = .ok l' w ∧ VRs m l l' := by
  intro rs
  induction rs with
  | nil => intro l h; simp only [resL] at h; cases h; exact ⟨[], by simp, .nil⟩
  | cons r rs ih =>
    intro l h
    simp only [resL] at h
    split at h
    · rename_i v l0 hv hl
      cases h
      obtain ⟨v', h1, h2⟩ := resV_ok htie hext hr hF hv
      obtain ⟨l', h3, h4⟩ := ih hl
      refine ⟨v' :: l', ?_, .cons h2 h4⟩
      simp only [List.mapM_cons, Sem.run_bind]
      rw [h1]
      simp only [Result.andThen_ok]
      rw [h3]
      simp
    · cases h

theorem results_eq (fn : Func) (tmps : Array Value) : results fn tmps = (do let vs ← List.toArray <$> fn.results.toList.mapM (resS tmps); pure (if h : vs.size = 1 then vs[0] else .tuple vs)) := by
  have hm : fn.results.mapM (resS tmps) = List.toArray <$> fn.results.toList.mapM (resS tmps) := by
    obtain ⟨l⟩ := fn.results
    exact List.mapM_toArray
  rw [← hm]
  rfl

theorem result_ok {S : Base} {m : Mu} {H : Heap} {w : World} (htie : Tied P X) (hext : ExtOk X S) (hr : Rel S m H w) {F : Frm} {tmps : Array Value} (hF : RelF m F tmps) {fn : Func} {v : Value}
    (h : result X fn.results.toList F H = some v) : ∃ v', (results fn tmps).run P w = .ok v' w ∧ VR m v v' := by
  unfold result at h
  rw [results_eq]
  split at h
  · rename_i v0 hl
    cases h
    obtain ⟨l', h1, h2⟩ := resL_ok htie hext hr hF hl
    obtain ⟨v', rfl, h3⟩ := h2.inv1
    refine ⟨v', ?_, h3⟩
    rw [Sem.run_bind, Sem.run_map, h1]
    simp
  · rename_i l hne hl
    cases h
    obtain ⟨l', h1, h2⟩ := resL_ok htie hext hr hF hl
    refine ⟨.tuple l'.toArray, ?_, .tuple (by simpa using h2)⟩
    rw [Sem.run_bind, Sem.run_map, h1]
    have hlen : l'.length ≠ 1 := by
      intro e
      rw [← h2.length] at e
      obtain ⟨x, rfl⟩ := List.length_eq_one_iff.1 e
      exact hne x rfl
    simp [hlen]
  · cases h

/-- Functions that stand for themselves by a proved contract. -/
def SpecOk (P : Program) (X : Ctx) : Prop := ∀ f s, X.spec f = some s → CallOk P X (fun g args H => cond (Nat.beq g f) (s args H) none)

/-- All functions of the table may be gone through. -/
def CodesOk (X : Ctx) (simple : List Oper → Bool) : Prop := ∀ f fn c, X.spec f = none → X.ct.get f = some fn → fn.body = some c → okCode simple c = true

theorem callOf_ok (htie : Tied P X) (hspec : SpecOk P X) {simple : List Oper → Bool} (hcodes : CodesOk X simple) {n : Nat} {go : Code → Frm → Heap → Option Out} (hgo : CodeOk P X simple n go) : CallOk P X (callOf X go) := by
  intro f args H v H' h
  unfold callOf at h
  split at h
  · rename_i s hs
    exact hspec f s hs f args H v H' (by simpa using h)
  · rename_i hs
    split at h
    · rename_i fn hfn
      obtain ⟨hf, hname⟩ := htie.ct _ _ hfn
      split at h
      · rename_i c hc
        have hok := hcodes f fn c hs hfn hc
        have fin : ∀ (e : Ex) (F1 : Frm), (e = .ret ∨ e = .normal) → go c ⟨T.ofList args, Nat.max fn.ntmps args.length⟩ H = some ⟨e, F1, H'⟩ → result X fn.results.toList F1 H' = some v →
            Up H H' ∧ ∀ S m w (args' : Array Value), ExtOk X S → Rel S m H w → Free H H' m → VRs m args args'.toList →
            (∃ fn, P.funcs[f]? = some fn ∧ fn.body.isSome = true ∧ (fn.name == "runtime.NumGoroutine") = false) ∧
            Calls P f args' w (fun e w' => ∃ m' v', e = .returned v' ∧ Grow H H' m m' ∧ VR m' v v' ∧ Rel S m' H' w') := by
          intro e F1 he hgo1 hres
          obtain ⟨u1, k1⟩ := hgo _ _ _ _ hgo1 hok
          refine ⟨u1, fun S m w args' hext hr hfree hargs => ⟨⟨fn, hf, by rw [hc]; rfl, hname⟩, ?_⟩⟩
          have hF0 : RelF m ⟨T.ofList args, Nat.max fn.ntmps args.length⟩ (args' ++ Array.replicate (fn.ntmps - args'.size) undef) := by
            have hl := hargs.length
            simp only [Array.length_toList] at hl
            refine ⟨?_, ?_⟩
            · simp only [Array.size_append, Array.size_replicate, Nat.max_def]; split <;> omega
            · intro t
              simp only [T.get_ofList, Array.getD_eq_getD_getElem?]
              by_cases ht : t < args.length
              · rw [List.getElem?_eq_getElem ht]
                obtain ⟨u, hu, hur⟩ := hargs.get (List.getElem?_eq_getElem ht)
                rw [Array.getElem?_append_left (by omega)]
                rw [Array.getElem?_toList] at hu
                rw [hu]; exact hur
              · rw [List.getElem?_eq_none (by omega), Array.getElem?_append_right (by omega)]
                rw [Array.getElem?_replicate]
                split <;> exact .undef m
          refine calls_of_wp hf hc ?_
          refine (k1 S m w { tmps := args' ++ Array.replicate (fn.ntmps - args'.size) undef, defers := [] } hext hr hfree hF0 _ ?_).wp
          intro m' a' w' q1 q2 q3 q4
          obtain ⟨v', r1, r2⟩ := result_ok htie hext q2 q3 hres
          rcases he with rfl | rfl <;> exact ⟨q4, v', r1, m', v', rfl, q1, r2, q2⟩
        split at h
        · rename_i F1 H1 hg
          split at h
          · rename_i v0 hv0; cases h; exact fin .ret _ (.inl rfl) hg hv0
          · cases h
        · rename_i F1 H1 hg
          split at h
          · rename_i v0 hv0; cases h; exact fin .normal _ (.inr rfl) hg hv0
          · cases h
        · cases h
      · cases h
    · cases h

end
end Ev
end Go.Proofs.Ytglkgmomnbdkoaa
