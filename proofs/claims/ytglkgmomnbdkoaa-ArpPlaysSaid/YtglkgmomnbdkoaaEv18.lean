/- The evaluator is sound. -/
import Derived.Test.YtglkgmomnbdkoaaEv17
namespace Go.Proofs.Ytglkgmomnbdkoaa
namespace Ev

section
variable {P : Program} {X : Ctx} {ops : Array Oper}

theorem ready_mem {listed : Array Bool} {i : Nat} : i ∈ Region.ready .any ops listed ↔ ∃ o, ops[i]? = some o ∧ listed.getD i true = false ∧ ∀ e ∈ o.after.toList, Region.binds .any e = true → listed.getD e.on false = true := by
  unfold Region.ready
  simp only [List.mem_filter, List.mem_range, Bool.and_eq_true, Bool.not_eq_true']
  constructor
  · rintro ⟨h1, h2, h3⟩
    have hget : ops[i]? = some ops[i] := Array.getElem?_eq_getElem h1
    rw [hget] at h3
    simp only [Option.map_some, Option.getD_some] at h3
    refine ⟨_, hget, h2, ?_⟩
    intro e he hb
    rw [Array.all_eq_true'] at h3
    have := h3 e (by simpa using he)
    rw [hb] at this
    simpa using this
  · rintro ⟨o, ho, h2, h3⟩
    refine ⟨lt_of_get ho, h2, ?_⟩
    rw [ho]
    simp only [Option.map_some, Option.getD_some]
    rw [Array.all_eq_true']
    intro e he
    cases hb : Region.binds .any e with
    | false => rfl
    | true => simpa using h3 e (by simpa using he) hb

section
variable {call : Call} {ps : List (Nat × Nat)} {Fs : Nat → Frm} {Hs : Nat → Heap} {S0 : Base} {m0 : Mu} {df : List Deferred}

theorem getD_false {listed : Array Bool} (hsz : listed.size = ops.size) {i : Nat} (hi : i < ops.size) : listed.getD i true = listed.getD i false := by
  simp only [Array.getD_eq_getD_getElem?, Array.getElem?_eq_getElem (show i < listed.size by omega), Option.getD_some]

theorem none_ready (hs : Sure P X call ops ps Fs Hs) {listed : Array Bool} (hsz : listed.size = ops.size) (h : Region.ready .any ops listed = []) : ∀ i, i < ops.size → listed.getD i false = true := by
  intro i
  induction i using Nat.strongRecOn with
  | _ i ih =>
    intro hi
    cases hb : listed.getD i false with
    | true => rfl
    | false =>
      exfalso
      have ho : ops[i]? = some ops[i] := Array.getElem?_eq_getElem hi
      have : i ∈ Region.ready .any ops listed := ready_mem.2 ⟨_, ho, by rw [getD_false hsz hi]; exact hb, fun e he hbe => by
        have := hs.plan.back i _ ho e he hbe
        exact ih e.on this (by omega)⟩
      rw [h] at this
      cases this

theorem any_ok (htie : Tied P X) (hzero : ZeroOk X) (hcall : CallOk P X call) (hext : ExtOk X S0) (hs : Sure P X call ops ps Fs Hs) {Q : Exit → Act → World → Prop}
    (hQ : ∀ m' a' w', Grow (Hs 0) (Hs ops.size) m0 m' → RelF m' (Fs ops.size) a'.tmps → a'.defers = df → Rel S0 m' (Hs ops.size) w' → Q .normal a' w') :
    ∀ (fuel : Nat) (listed : Array Bool) (a : Act) (w : World), listed.size = ops.size → listed.toList.count false = fuel → Inv X ops Fs Hs S0 m0 df (fun j => listed.getD j false = true) a w → wpAny P .any ops Q fuel listed a w := by
  have fin : ∀ (listed : Array Bool) (a : Act) (w : World), Inv X ops Fs Hs S0 m0 df (fun j => listed.getD j false = true) a w → (∀ i, i < ops.size → listed.getD i false = true) → Q .normal a w := by
    intro listed a w h hall
    obtain ⟨m', q1, q2, q3, q4⟩ := h.done hcall hs hall
    exact hQ m' a w q1 q2 q3 q4
  intro fuel
  induction fuel with
  | zero =>
    intro listed a w hsz hcnt h
    have hall : ∀ i, i < ops.size → listed.getD i false = true := by
      intro i hi
      have hlt : i < listed.size := by omega
      cases hb : listed.getD i false with
      | true => rfl
      | false =>
        exfalso
        rw [Array.getD_eq_getD_getElem?, Array.getElem?_eq_getElem hlt, Option.getD_some] at hb
        have hm : false ∈ listed.toList := by rw [← hb]; exact Array.getElem_mem_toList hlt
        have := List.count_pos_iff.2 hm
        omega
    refine ⟨?_, fin listed a w h hall⟩
    apply List.eq_nil_iff_forall_not_mem.2
    intro i hi
    obtain ⟨o, ho, h1, -⟩ := ready_mem.1 hi
    have hlt := lt_of_get ho
    rw [getD_false hsz hlt, hall i hlt] at h1
    cases h1
  | succ fuel ih =>
    intro listed a w hsz hcnt h
    refine ⟨fun hr => fin listed a w h (none_ready hs hsz hr), ?_⟩
    intro i hi
    obtain ⟨o, ho, h1, h2⟩ := ready_mem.1 hi
    have hlt := lt_of_get ho
    have hlt' : i < listed.size := by omega
    rw [getD_false hsz hlt] at h1
    refine h.step htie hzero hcall hext hs ho (by rw [h1]; simp) h2 ?_
    intro a' w' hInv
    refine ih _ a' w' (by simp [hsz]) ?_ ?_
    · rw [Array.toList_setIfInBounds, List.count_set (by simpa using hlt')]
      rw [Array.getD_eq_getD_getElem?, Array.getElem?_eq_getElem hlt', Option.getD_some] at h1
      simp [h1, hcnt]
    · have e : (fun j => (listed.setIfInBounds i true).getD j false = true) = Plus (fun j => listed.getD j false = true) i := by
        funext j
        apply propext
        simp only [Array.getD_eq_getD_getElem?, Array.getElem?_setIfInBounds, Plus]
        by_cases hij : i = j
        · subst hij; simp [hlt']
        · simp [hij, Ne.symm hij]
      rw [e]; exact hInv

theorem region_ok (htie : Tied P X) (hzero : ZeroOk X) (hcall : CallOk P X call) (hext : ExtOk X S0) (hs : Sure P X call ops ps Fs Hs) {m : Mu} {w : World} {a : Act} (hr : Rel S0 m (Hs 0) w)
    (hfree : Free (Hs 0) (Hs ops.size) m) (hF : RelF m (Fs 0) a.tmps) {id : Nat} {Q : Exit → Act → World → Prop}
    (hQ : ∀ m' a' w', Grow (Hs 0) (Hs ops.size) m m' → RelF m' (Fs ops.size) a'.tmps → a'.defers = a.defers → Rel S0 m' (Hs ops.size) w' → Q .normal a' w') : (Code.region id ops true).wp P Q a w := by
  refine wp_region_any htie.mixed (any_ok htie hzero hcall hext hs hQ _ _ a _ (by simp) (by simp) ?_)
  have no : ∀ j, ¬ ((Array.replicate ops.size false).getD j false = true) := by
    intro j h
    rw [Array.getD_eq_getD_getElem?, Array.getElem?_replicate] at h
    split at h <;> simp at h
  refine ⟨Fs 0, m, 0, ?_, ⟨rfl, fun t => ⟨0, Nat.zero_le _, fun j o _ _ => ⟨fun h => absurd h (no j), fun h => by omega⟩, rfl⟩⟩, hF, rfl, ?_, .inl rfl⟩
  · intro j o _ hj; exact absurd hj (no j)
  · refine ⟨Nat.zero_le _, fun j o _ _ => ⟨fun h => absurd h (no j), fun h => by omega⟩, fun j o _ _ h => by omega, hr.drew, ?_, ?_, ?_, m.le_refl, fun _ _ => rfl⟩
    · intro j o B _ _ h; exact absurd h (no j)
    · intro j o B j' o' B' L L' _ _ h; exact absurd h (no j)
    · intro b h1 h2 h3; exact absurd (hfree b h1 h2) h3

end

theorem asksAt_fst {tt : T TI} {ms : List Nat} {i : Nat} : ∀ {os : List Oper} {k : Nat} {first : Bool} {p : Nat × Nat}, p ∈ asksAt tt ms i os k first → p.1 = i := by
  intro os
  induction os with
  | nil => intro k first p h; simp [asksAt] at h
  | cons y os ih =>
    intro k first p h
    unfold asksAt at h
    split at h
    · revert h
      cases Nat.blt k i <;> simp only [cond_true, cond_false]
      · cases (Nat.beq i k || (ms.getD k 0).testBit i) <;> simp only [cond_true, cond_false]
        · intro h
          rcases List.mem_cons.1 h with rfl | h
          · rfl
          · exact ih h
        · exact ih
      · cases (ms.getD i 0).testBit k <;> simp only [cond_true, cond_false]
        · cases first <;> simp only [cond_true, cond_false]
          · intro h
            rcases List.mem_cons.1 h with rfl | h
            · rfl
            · exact ih h
          · intro h
            rcases List.mem_cons.1 h with rfl | h
            · rfl
            · rcases List.mem_cons.1 h with rfl | h
              · rfl
              · exact ih h
        · exact ih
    · revert h
      cases (Nat.blt k i && !(ms.getD i 0).testBit k && first) <;> simp only [cond_true, cond_false]
      · exact ih
      · intro h
        rcases List.mem_cons.1 h with rfl | h
        · rfl
        · exact ih h
    · exact ih h

theorem asks_r {tt : T TI} {all : List Oper} {ms : List Nat} : ∀ {os : List Oper} {k i p : Nat}, (i, p) ∈ asks tt all ms os k → k ≤ i ∧ ∀ o, os[i - k]? = some o → cls tt o.op = .r := by
  intro os
  induction os with
  | nil => intro k i p h; simp [asks] at h
  | cons y os ih =>
    intro k i p h
    have rest : (i, p) ∈ asks tt all ms os (k + 1) → k ≤ i ∧ ∀ o, (y :: os)[i - k]? = some o → cls tt o.op = .r := by
      intro h
      obtain ⟨h1, h2⟩ := ih h
      refine ⟨by omega, fun o ho => h2 o ?_⟩
      rw [show i - k = i - (k + 1) + 1 by omega] at ho
      simpa using ho
    unfold asks at h
    split at h
    · rename_i hr
      rcases List.mem_append.1 h with h | h
      · have := asksAt_fst h
        simp only at this
        subst this
        refine ⟨Nat.le_refl _, fun o ho => ?_⟩
        simp at ho; subst ho; exact hr
      · exact rest h
    · exact rest h

theorem plan_asks {tt : T TI} {os : List Oper} {ps : List (Nat × Nat)} (h : plan tt os = some ps) : ps = asks tt os (masks os []) os 0 := by
  unfold plan at h
  revert h
  cases freeFrom tt os.toArray (masks os []) os 0 <;> simp only [cond_true, cond_false]
  · intro h; cases h
  · intro h; cases h; rfl

theorem run1_dst {call : Call} {os : List Oper} {o : Oper} {F F' : Frm} {H H' : Heap} (h : run1 X call os o F H = some (F', H')) {t : Tmp} (hd : o.dst = some t) : ∃ v, F'.t.get t = some v := by
  unfold run1 at h
  cases hw : wantedBy F os o with
  | true =>
    simp only [hw, cond_true] at h
    split at h
    · split at h
      · rename_i hp; cases h; exact ⟨_, (put_get hp).2.2 t hd⟩
      · cases h
    · cases h
  | false =>
    simp only [hw, cond_false] at h
    split at h
    · rename_i hp; cases h; exact ⟨_, (put_get hp).2.2 t hd⟩
    · cases h

theorem drawn_ok (htie : Tied P X) (hzero : ZeroOk X) : DrawOk P X (fun _ => true) (drawn X) := by
  intro call hcall ops hp _ F H F' H' h
  have hpl : ∀ (i : Nat) (o : Oper), ops[i]? = some o → okOp o.op = true := fun i o ho => List.all_eq_true.1 hp o (by
    rw [Array.mem_toList_iff]; exact Array.mem_of_getElem? ho)
  have fin : ∀ {ps : List (Nat × Nat)} {Fs : Nat → Frm} {Hs : Nat → Heap}, Sure P X call ops ps Fs Hs → Fs 0 = F → Hs 0 = H → Fs ops.size = F' → Hs ops.size = H' →
      Up H H' ∧ ∀ S m w (a : Act), ExtOk X S → Rel S m H w → Free H H' m → RelF m F a.tmps → ∀ (id : Nat) (Q : Exit → Act → World → Prop),
      (∀ m' a' w', Grow H H' m m' → RelF m' F' a'.tmps → a'.defers = a.defers → Rel S m' H' w' → Q .normal a' w') → (Code.region id ops true).wp P Q a w := by
    intro ps Fs Hs hs e1 e2 e3 e4
    subst e1; subst e2; subst e3; subst e4
    refine ⟨?_, fun S m w a hext hr hfree hF id Q hQ => region_ok htie hzero hcall hext hs hr hfree hF hQ⟩
    have := hs.up hcall (i := 0) ops.size (by omega)
    rwa [Nat.zero_add] at this
  unfold drawn at h
  split at h
  · cases h
  · rename_i hpn
    obtain ⟨Fs, Hs, a1, a2, a3, a4, a5⟩ := runL_states h
    refine fin (ps := []) (Fs := Fs) (Hs := Hs) ⟨plan_ok hpn, hpl, fun i o ho => a5 i o (by simpa using ho), fun i p o hm => by cases hm⟩ a1 a2 (by simpa using a3) (by simpa using a4)
  · rename_i ps hne hpn
    split at h
    · rename_i st hst
      cases hall : ps.all (asked X call ops.toList st) with
      | false => rw [hall] at h; cases h
      | true =>
        rw [hall] at h
        simp only [cond_true] at h
        obtain ⟨Fs, Hs, a1, a2, a3, a4, a5⟩ := runS_states hst
        have hend := a4 ops.toList.length (Nat.le_refl _)
        rw [getN_eq, hend] at h
        simp only [Option.some.injEq, Prod.mk.injEq] at h
        refine fin (ps := ps) (Fs := Fs) (Hs := Hs) ⟨plan_ok hpn, hpl, fun i o ho => a5 i o (by simpa using ho), ?_⟩ a1 a2 (by simpa using h.1) (by simpa using h.2)
        intro i p o hm ho
        have hask := List.all_eq_true.1 hall _ hm
        have hil : i < ops.toList.length := by simpa using lt_of_get ho
        have hoL : ops.toList[i]? = some o := by simpa using ho
        have hcl : cls X.tt o.op = .r := (asks_r (by rw [plan_asks hpn] at hm; exact hm)).2 o hoL
        unfold asked at hask
        simp only [getN_eq, hoL, a4 i (by omega), a4 (i + 1) (by omega)] at hask
        cases hpp : st[p]? with
        | none => rw [hpp] at hask; cases hask
        | some q =>
          obtain ⟨Fp, Hp⟩ := q
          rw [hpp] at hask
          simp only at hask
          have hp : Hp = Hs p := by
            rcases Nat.lt_or_ge ops.toList.length p with h' | h'
            · rw [List.getElem?_eq_none (by omega)] at hpp; cases hpp
            · rw [a4 p h'] at hpp; cases hpp; rfl
          subst hp
          split at hask
          · rename_i F1 H1 hrun
            have hq := run1_quiet (X := X) (.inr hcl) hrun
            subst hq
            refine ⟨F1, hrun, fun t hd => ?_⟩
            rw [hd] at hask
            simp only at hask
            have h1 := veq_ok _ _ _ hask
            obtain ⟨v1, g1⟩ := run1_dst hrun hd
            obtain ⟨v2, g2⟩ := run1_dst (a5 i o hoL) hd
            rw [g1, g2] at h1
            rw [g1, g2]
            exact congrArg some h1
          · cases hask
    · cases h

theorem sound (htie : Tied P X) (hzero : ZeroOk X) (hspec : SpecOk P X) (hcodes : CodesOk X (fun _ => true)) : ∀ n, CodeOk P X (fun _ => true) n (ev X n) ∧ CallOk P X (callN X n) := by
  intro n
  induction n with
  | zero =>
    have h : CodeOk P X (fun _ => true) 0 (ev X 0) := by intro c F H out h; cases h
    exact ⟨h, callOf_ok htie hspec hcodes h⟩
  | succ n ih =>
    have h : CodeOk P X (fun _ => true) (n + 1) (ev X (n + 1)) := codeStep_ok htie hzero (drawn_ok htie hzero) ih.2 ih.1
    exact ⟨h, callOf_ok htie hspec hcodes h⟩

end
end Ev
end Go.Proofs.Ytglkgmomnbdkoaa
