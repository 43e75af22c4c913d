/- Programs as predicates: what a run of the evaluator comes to, by the code's text. Nothing is said of one program here. -/
import Derived.Test.YtglkgmomnbdkoaaEv19
namespace Go.Proofs.Ytglkgmomnbdkoaa
namespace Ev
noncomputable section

/-! More fuel changes nothing. -/
def CallLe (c c' : Call) : Prop := ∀ f a H r, c f a H = some r → c' f a H = some r
def GoLe (g g' : Code → Frm → Heap → Option Out) : Prop := ∀ c F H o, g c F H = some o → g' c F H = some o

section
variable {X : Ctx} {c c' : Call}

theorem step_le (h : CallLe c c') {F : Frm} {H : Heap} {o : Op} {r : Value × Heap} (hs : step X c F H o = some r) : step X c' F H o = some r := by
  unfold step at hs ⊢
  cases hc : callee F o with
  | some p => rw [hc] at hs; exact h _ _ _ _ hs
  | none => rw [hc] at hs; exact hs

theorem run1_le (h : CallLe c c') {all : List Oper} {o : Oper} {F : Frm} {H : Heap} {r : Frm × Heap} (hs : run1 X c all o F H = some r) : run1 X c' all o F H = some r := by
  unfold run1 at hs ⊢
  cases hw : wantedBy F all o with
  | true =>
    simp only [hw, cond_true] at hs ⊢
    split at hs
    · rename_i v H' h1; rw [step_le h h1]; exact hs
    · cases hs
  | false => simp only [hw, cond_false] at hs ⊢; exact hs

theorem runL_le (h : CallLe c c') {all : List Oper} : ∀ {os : List Oper} {F : Frm} {H : Heap} {r : Frm × Heap}, runL X c all os F H = some r → runL X c' all os F H = some r
  | [], F, H, r, hs => hs
  | o :: os, F, H, r, hs => by
    simp only [runL] at hs ⊢
    split at hs
    · rename_i F' H' h1; rw [run1_le h h1]; exact runL_le h hs
    · cases hs

theorem runS_le (h : CallLe c c') {all : List Oper} : ∀ {os : List Oper} {F : Frm} {H : Heap} {r : List (Frm × Heap)}, runS X c all os F H = some r → runS X c' all os F H = some r
  | [], F, H, r, hs => hs
  | o :: os, F, H, r, hs => by
    simp only [runS] at hs ⊢
    split at hs
    · rename_i F' H' h1
      rw [run1_le h h1]
      split at hs
      · rename_i l h2
        simp only [runS_le h h2]
        exact hs
      · cases hs
    · cases hs

theorem asked_le (h : CallLe c c') {os : List Oper} {st : List (Frm × Heap)} {p : Nat × Nat} (hs : asked X c os st p = true) : asked X c' os st p = true := by
  unfold asked at hs ⊢
  split at hs
  · rename_i o Fi Hi Fp Hp F1 H1 a1 a2 a3 a4
    split at hs
    · rename_i F' H' hr
      simp only [run1_le h hr]
      exact hs
    · cases hs
  · cases hs

theorem drawn_le (h : CallLe c c') {os : List Oper} {F : Frm} {H : Heap} {r : Frm × Heap} (hs : drawn X c os F H = some r) : drawn X c' os F H = some r := by
  unfold drawn at hs ⊢
  split at hs
  · cases hs
  · exact runL_le h hs
  · rename_i ps hne hp
    split at hs
    · rename_i st hst
      rw [runS_le h hst]
      cases ha : ps.all (asked X c os st) with
      | false => rw [ha] at hs; cases hs
      | true =>
        rw [ha] at hs
        have : ps.all (asked X c' os st) = true := List.all_eq_true.2 fun p hp => asked_le h (List.all_eq_true.1 ha p hp)
        simp only [this]
        exact hs
    · cases hs
end

section
variable {X : Ctx} {g g' : Code → Frm → Heap → Option Out}

theorem callOf_le (h : GoLe g g') : CallLe (callOf X g) (callOf X g') := by
  intro f a H r hs
  unfold callOf at hs ⊢
  split at hs
  · exact hs
  · split at hs
    · split at hs
      · split at hs
        · rename_i F H' ho; rw [h _ _ _ _ ho]; exact hs
        · rename_i F H' ho; rw [h _ _ _ _ ho]; exact hs
        · cases hs
      · cases hs
    · cases hs

theorem codeStep_le (h : GoLe g g') : GoLe (codeStep X g (drawn X)) (codeStep X g' (drawn X)) := by
  intro c F H o hs
  cases c with
  | skip => exact hs
  | label _ => exact hs
  | ret => exact hs
  | exit id => exact hs
  | seq a b =>
    simp only [codeStep] at hs ⊢
    split at hs
    · rename_i F' H' ho; rw [h _ _ _ _ ho]; exact h _ _ _ _ hs
    · rename_i hne
      have hg : g' a F H = some o := h _ _ _ _ hs
      rw [hg]
      split
      · rename_i F' H' he; cases he; exact absurd hs (by intro hh; exact hne _ _ hh)
      · rfl
  | cond x a b =>
    simp only [codeStep] at hs ⊢
    split at hs
    · exact h _ _ _ _ hs
    · exact h _ _ _ _ hs
    · cases hs
  | block id b =>
    simp only [codeStep] at hs ⊢
    split at hs
    · rename_i j F' H' ho; rw [h _ _ _ _ ho]; exact hs
    · rename_i hne
      have hg : g' b F H = some o := h _ _ _ _ hs
      rw [hg]
      split
      · rename_i j F' H' he; cases he; exact absurd hs (by intro hh; exact hne _ _ _ hh)
      · rfl
  | loop b =>
    simp only [codeStep] at hs ⊢
    split at hs
    · rename_i F' H' ho; rw [h _ _ _ _ ho]; exact h _ _ _ _ hs
    · rename_i hne
      have hg : g' b F H = some o := h _ _ _ _ hs
      rw [hg]
      split
      · rename_i F' H' he; cases he; exact absurd hs (by intro hh; exact hne _ _ hh)
      · rfl
  | region id ops d =>
    cases d with
    | false =>
      simp only [codeStep] at hs ⊢
      split at hs
      · rename_i F' H' ho; rw [runL_le (callOf_le h) ho]; exact hs
      · cases hs
    | true =>
      simp only [codeStep] at hs ⊢
      split at hs
      · rename_i F' H' ho; rw [drawn_le (callOf_le h) ho]; exact hs
      · cases hs
  | rangeFunc _ _ _ _ => exact hs
  | scope _ => exact hs
  | goto _ => exact hs
  | refuse _ => exact hs

theorem ev_le1 : ∀ n, GoLe (ev X n) (ev X (n + 1))
  | 0 => fun c F H o h => by rw [ev_zero] at h; cases h
  | n + 1 => fun c F H o h => by rw [ev_succ] at h ⊢; exact codeStep_le (ev_le1 n) _ _ _ _ h

theorem ev_le {n m : Nat} (h : n ≤ m) : GoLe (ev X n) (ev X m) := by
  induction h with
  | refl => exact fun c F H o h => h
  | step _ ih => exact fun c F H o h => ev_le1 _ _ _ _ _ (ih _ _ _ _ h)

theorem callN_le {n m : Nat} (h : n ≤ m) : CallLe (callN X n) (callN X m) := callOf_le (ev_le h)
end

/-! What code does not write. -/
def dsts : List Oper → List Nat
  | [] => []
  | o :: os => match o.dst with
    | some d => d :: dsts os
    | none => dsts os

def chg : Code → List Nat
  | .region _ ops _ => dsts ops.toList
  | .seq a b => chg a ++ chg b
  | .cond _ a b => chg a ++ chg b
  | .block _ b => chg b
  | .loop b => chg b
  | _ => []

def Keep (L : List Nat) (F F' : Frm) : Prop := F'.n = F.n ∧ ∀ t, t ∉ L → F'.t.get t = F.t.get t

theorem Keep.refl (L : List Nat) (F : Frm) : Keep L F F := ⟨rfl, fun _ _ => rfl⟩
theorem Keep.trans {L : List Nat} {F G K : Frm} (h : Keep L F G) (h' : Keep L G K) : Keep L F K := ⟨by rw [h'.1, h.1], fun t ht => by rw [h'.2 t ht, h.2 t ht]⟩
theorem Keep.more {L M : List Nat} {F G : Frm} (h : Keep L F G) (hs : ∀ t, t ∈ L → t ∈ M) : Keep M F G := ⟨h.1, fun t ht => h.2 t fun hl => ht (hs t hl)⟩

section
variable {X : Ctx} {c : Call}

theorem dsts_head {o : Oper} {os : List Oper} {d : Nat} (h : o.dst = some d) : d ∈ dsts (o :: os) := by simp [dsts, h]
theorem dsts_tail {o : Oper} {os : List Oper} {d : Nat} (h : d ∈ dsts os) : d ∈ dsts (o :: os) := by
  unfold dsts; split
  · exact List.mem_cons_of_mem _ h
  · exact h

theorem runL_keep {all : List Oper} : ∀ {os : List Oper} {F F' : Frm} {H H' : Heap}, runL X c all os F H = some (F', H') → Keep (dsts os) F F'
  | [], F, F', H, H', h => by simp only [runL] at h; cases h; exact .refl _ _
  | o :: os, F, F', H, H', h => by
    simp only [runL] at h
    split at h
    · rename_i F1 H1 h1
      obtain ⟨b1, b2⟩ := run1_frame h1
      exact Keep.trans ⟨b1, fun t ht => b2 t fun e => ht (dsts_head e)⟩ ((runL_keep h).more fun t ht => dsts_tail ht)
    · cases h

theorem runS_runL {all : List Oper} : ∀ {os : List Oper} {F : Frm} {H : Heap} {st : List (Frm × Heap)}, runS X c all os F H = some st → ∃ p, getN st os.length = some p ∧ runL X c all os F H = some p
  | [], F, H, st, h => by simp only [runS] at h; cases h; exact ⟨_, rfl, rfl⟩
  | o :: os, F, H, st, h => by
    simp only [runS] at h
    split at h
    · rename_i F1 H1 h1
      split at h
      · rename_i l h2
        cases h
        obtain ⟨p, h3, h4⟩ := runS_runL h2
        exact ⟨p, h3, by simp only [runL, h1]; exact h4⟩
      · cases h
    · cases h

theorem drawn_runL {os : List Oper} {F : Frm} {H : Heap} {r : Frm × Heap} (h : drawn X c os F H = some r) : runL X c os os F H = some r := by
  unfold drawn at h
  split at h
  · cases h
  · exact h
  · rename_i ps _ _
    split at h
    · rename_i st hst
      obtain ⟨p, h3, h4⟩ := runS_runL hst
      cases ha : ps.all (asked X c os st) with
      | false => rw [ha] at h; cases h
      | true =>
        rw [ha] at h
        simp only [cond_true] at h
        rw [h3] at h
        cases h
        exact h4
    · cases h
end

theorem ev_keep {X : Ctx} : ∀ {n : Nat} {c : Code} {F : Frm} {H : Heap} {o : Out}, ev X n c F H = some o → Keep (chg c) F o.F
  | 0, c, F, H, o, h => by rw [ev_zero] at h; cases h
  | n + 1, c, F, H, o, h => by
    rw [ev_succ] at h
    cases c with
    | skip => simp only [codeStep] at h; cases h; exact .refl _ _
    | label _ => simp only [codeStep] at h; cases h; exact .refl _ _
    | ret => simp only [codeStep] at h; cases h; exact .refl _ _
    | exit id => simp only [codeStep] at h; cases h; exact .refl _ _
    | seq a b =>
      simp only [codeStep] at h
      split at h
      · rename_i F' H' ho
        exact ((ev_keep ho).more fun t ht => List.mem_append_left _ ht).trans ((ev_keep h).more fun t ht => List.mem_append_right _ ht)
      · exact (ev_keep h).more fun t ht => List.mem_append_left _ ht
    | cond x a b =>
      simp only [codeStep] at h
      split at h
      · exact (ev_keep h).more fun t ht => List.mem_append_left _ ht
      · exact (ev_keep h).more fun t ht => List.mem_append_right _ ht
      · cases h
    | block id b =>
      simp only [codeStep] at h
      split at h
      · rename_i j F' H' ho
        have := ev_keep ho
        cases hb : Nat.beq j id with
        | true => rw [hb] at h; simp only [cond_true] at h; cases h; exact this
        | false => rw [hb] at h; simp only [cond_false] at h; cases h; exact this
      · exact ev_keep (c := b) h
    | loop b =>
      simp only [codeStep] at h
      split at h
      · rename_i F' H' ho
        exact Keep.trans (L := chg b) (ev_keep ho) (ev_keep (c := .loop b) h)
      · exact ev_keep (c := b) h
    | region id ops d =>
      cases d with
      | false =>
        simp only [codeStep] at h
        split at h
        · rename_i F' H' ho; cases h; exact runL_keep ho
        · cases h
      | true =>
        simp only [codeStep] at h
        split at h
        · rename_i F' H' ho; cases h; exact runL_keep (drawn_runL ho)
        · cases h
    | rangeFunc _ _ _ _ => simp only [codeStep] at h; cases h
    | scope _ => simp only [codeStep] at h; cases h
    | goto _ => simp only [codeStep] at h; cases h
    | refuse _ => simp only [codeStep] at h; cases h

end
end Ev
end Go.Proofs.Ytglkgmomnbdkoaa
