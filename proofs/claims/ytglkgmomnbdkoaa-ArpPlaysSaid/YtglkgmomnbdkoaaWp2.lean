/- Programs as predicates: the predicate of a text, and that it says no more than what a run comes to. Nothing is said of one program here. -/
import Derived.Test.YtglkgmomnbdkoaaWp1
namespace Go.Proofs.Ytglkgmomnbdkoaa
namespace Ev
noncomputable section

def Ok {α : Type} (x : Option α) (K : α → Prop) : Prop := ∃ a, x = some a ∧ K a
def Ok2 (x : Option (Value × Heap)) (K : Value → Heap → Prop) : Prop := ∃ v H, x = some (v, H) ∧ K v H
def Br (x : Value) (A B : Prop) : Prop := (x = .bool true ∧ A) ∨ (x = .bool false ∧ B)
/-- A call comes back, and what it gives is so. -/
def C (X : Ctx) (f : FuncId) (args : List Value) (H : Heap) (K : Value → Heap → Prop) : Prop := ∃ n v H', callN X n f args H = some (v, H') ∧ K v H'
/-- The same of a function that is a value. -/
def CV (X : Ctx) (f : Value) (args : List Value) (H : Heap) (K : Value → Heap → Prop) : Prop := ∃ g first captured, f = .func (.func g) first captured ∧ C X g (first.toList ++ args ++ captured.toList) H K
def FA (x : Value) (o : Nat) (K : Value → Prop) : Prop := ∃ a, x = .pointer (some a) ∧ K (.pointer (some (addA a o)))
def Ld1 (X : Ctx) (H : Heap) (p : Value) (K : Value → Prop) : Prop := ∃ a v, p = .pointer (some a) ∧ rd1 X H a = some v ∧ K v
def LdN (X : Ctx) (H : Heap) (p : Value) (n : Nat) (K : Value → Prop) : Prop := ∃ a l, p = .pointer (some a) ∧ rdN X H a n = some l ∧ K (.agg ⟨l⟩)
def St (H : Heap) (p : Value) (n : Nat) (v : Value) (K : Heap → Prop) : Prop := ∃ a H', p = .pointer (some a) ∧ (cellsOf v).length = n ∧ wrN H a (cellsOf v) = some H' ∧ K H'
def IA (x i : Value) (s : Nat) (K : Value → Prop) : Prop := ∃ a len cap k n, x = .slice (some a) len cap ∧ i = .int k n ∧ 0 ≤ n ∧ n < (len : Int) ∧ K (.pointer (some (addA a (n.toNat * s))))
def IAr (x i : Value) (len s : Nat) (K : Value → Prop) : Prop := ∃ a k n, x = .pointer (some a) ∧ i = .int k n ∧ 0 ≤ n ∧ n < (len : Int) ∧ K (.pointer (some (addA a (n.toNat * s))))

/-- New memory. -/
def Al (H : Heap) (B : Blk) (K : Value → Heap → Prop) : Prop := K (.pointer (some ⟨H.next, 0, none⟩)) (H.alloc B)
def AlM (H : Heap) (K : Value → Heap → Prop) : Prop := K (.map (some H.next)) (H.alloc (.map [] 0))

/-- What an operation looks at. -/
def opds : Op → List Operand
  | .move x | .assign x | .box _ x | .load _ x | .nilCheck x | .unOp _ _ x | .convert _ _ x | .fieldAddr _ x _ | .field _ x _ | .extract x _ => [x]
  | .pick c a b => [c, a, b]
  | .build _ ps | .buildSlice _ _ ps => ps.toList.map (·.2)
  | .store _ a v | .binOp _ _ a v _ | .makeSlice _ a v | .indexAddr _ a v | .index _ a v | .lookup _ a v _ => [a, v]
  | .makeFunc _ first captured => first.toList ++ captured.toList
  | .slice _ x l h m => x :: (l.toList ++ (h.toList ++ m.toList))
  | .mapUpdate _ m k v => [m, k, v]
  | .call c => match c.callee with
    | .value f => f :: c.args.toList
    | _ => c.args.toList
  | _ => []

/-- A frame of which something is known: values, and which of them are known to be true or false. -/
structure Sf where
  t : T Value
  n : Nat
  kn : T (Option Bool)

def Sf.F (G : Sf) : Frm := ⟨G.t, G.n⟩
def Sf.eval (G : Sf) (x : Operand) : Value := G.F.eval x
def Sf.know (G : Sf) (d : Tmp) (b : Bool) : Sf := ⟨G.t, G.n, G.kn.set d (some (some b))⟩
def Sf.knowO (G : Sf) (x : Operand) (b : Bool) : Sf := match x with
  | .tmp t => G.know t b
  | _ => G

def knO (kn : T (Option Bool)) : Operand → Option (Option Bool)
  | .tmp t => kn.get t
  | .const (.bool b) => some (some b)
  | _ => none

def knR (kn : T (Option Bool)) : Op → Option (Option Bool)
  | .move x => knO kn x
  | .assign x => knO kn x
  | .pick c a b => match knO kn c with
    | some (some true) => knO kn a
    | some (some false) => knO kn b
    | _ => none
  | _ => none

/-- What is known of a temporary: true, false, or that it was not computed. -/
def kv : Option Bool → Value
  | some b => .bool b
  | none => undef

def pickV : Value → Value → Value → Option Value
  | .bool true, a, _ => some a
  | .bool false, _, b => some b
  | _, _, _ => none

def dfd (G : Sf) : Operand → Bool
  | .tmp t => match G.t.get t with
    | some _ => true
    | none => false
  | _ => true

def wpO (X : Ctx) (G : Sf) (H : Heap) (o : Op) (K : Value → Heap → Prop) : Prop :=
  match o with
  | .move x => K (G.eval x) H
  | .assign x => K (G.eval x) H
  | .pick c a b => match knO G.kn c with
    | some (some true) => K (G.eval a) H
    | some (some false) => K (G.eval b) H
    | _ => Ok (pickV (G.eval c) (G.eval a) (G.eval b)) fun v => K v H
  | .alloc e => match X.tt.get e with
    | some i => cond (Nat.beq i.zero.length i.size) (K (.pointer (some ⟨H.next, 0, none⟩)) (H.alloc (.cells i.zero e))) False
    | none => False
  | .box e x => K (.pointer (some ⟨H.next, 0, none⟩)) (H.alloc (.cells (cellsOf (G.eval x)) e))
  | .build t ps => Ok (build X t (ps.toList.map fun p => (p.1, G.eval p.2))) fun v => K v H
  | .buildSlice t n ps => Ok2 (buildSlice X H t n (ps.toList.map fun p => (p.1, G.eval p.2))) K
  | .load t a => match X.tt.get t with
    | some i => cond i.agg (LdN X H (G.eval a) i.size fun v => K v H) (Ld1 X H (G.eval a) fun v => K v H)
    | none => False
  | .store t a v => match X.tt.get t with
    | some i => St H (G.eval a) i.size (G.eval v) fun H' => K undef H'
    | none => False
  | .nilCheck x => Ok (nilCheck (G.eval x)) fun v => K v H
  | .binOp b t x y _ => Ok (bin X b t (G.eval x) (G.eval y)) fun v => K v H
  | .unOp u _ x => Ok (un u (G.eval x)) fun v => K v H
  | .convert s d x => Ok2 (conv X H s d (G.eval x)) K
  | .makeFunc fn first captured => K (.func fn ⟨first.toList.map G.eval⟩ ⟨captured.toList.map G.eval⟩) H
  | .makeMap t r => match r, X.tt.get t with
    | none, some _ => K (.map (some H.next)) (H.alloc (.map [] 0))
    | _, _ => False
  | .makeSlice t l c => Ok2 (makeSlice X H t (G.eval l) (G.eval c)) K
  | .slice t x lo hi mx => Ok (slice X t (G.eval x) (lo.map G.eval) (hi.map G.eval) (mx.map G.eval)) fun v => K v H
  | .fieldAddr t x f => match X.tt.get t with
    | some i => match i.k with
      | .struct fs => match getN fs f with
        | some (o, _, s) => cond (Nat.beq s 0) False (FA (G.eval x) o fun v => K v H)
        | none => False
      | _ => False
    | none => False
  | .field t x f => Ok (field X t (G.eval x) f) fun v => K v H
  | .indexAddr t x i => match X.tt.get t with
    | some it => match it.k with
      | .slice e => match X.tt.get e with
        | some ie => IA (G.eval x) (G.eval i) ie.size fun v => K v H
        | none => False
      | .arr len e => match X.tt.get e with
        | some ie => IAr (G.eval x) (G.eval i) len ie.size fun v => K v H
        | none => False
      | _ => False
    | none => False
  | .index t x i => Ok (index X t (G.eval x) (G.eval i)) fun v => K v H
  | .lookup t m k ok => Ok (lookup X H t (G.eval m) (G.eval k) ok) fun v => K v H
  | .mapUpdate t m k v => Ok (mapUpdate X H t (G.eval m) (G.eval k) (G.eval v)) fun H' => K undef H'
  | .extract x i => Ok (extract (G.eval x) i) fun v => K v H
  | .call c => match c.callee with
    | .builtin b => Ok2 (builtin X H b c.argTypes.toList (c.args.toList.map G.eval)) K
    | .value f => match f with
      | .func g => C X g (c.args.toList.map G.eval) H K
      | f => CV X (G.eval f) (c.args.toList.map G.eval) H K
    | _ => False
  | _ => False

def wanted (G : Sf) (all : List Oper) (o : Oper) (A B : Sf → Prop) : Prop :=
  match o.guard with
  | none => A G
  | some (j, want) => match getN all j with
    | some g => match g.dst with
      | some d => match G.kn.get d with
        | some (some b) => cond (cond want b (not b)) (A G) (B G)
        | some none => B G
        | none => match G.t.get d with
          | some v => cond want (Br v (A (G.know d true)) (B (G.know d false))) (Br v (B (G.know d true)) (A (G.know d false)))
          | none => False
      | none => False
    | none => False

def wpP (G : Sf) (d : Option Tmp) (k : Option (Option Bool)) (v : Value) (K : Sf → Prop) : Prop :=
  match d with
  | none => K G
  | some d => cond (Nat.blt d G.n) (K ⟨G.t.set d (some v), G.n, G.kn.set d k⟩) False

def wp1 (X : Ctx) (all : List Oper) (o : Oper) (G : Sf) (H : Heap) (K : Sf → Heap → Prop) : Prop :=
  cond ((opds o.op).all (dfd G)) (wanted G all o (fun G => wpO X G H o.op fun v H' => wpP G o.dst (knR G.kn o.op) v fun G' => K G' H') (fun G => wpP G o.dst (some none) undef fun G' => K G' H)) False

def wpL (X : Ctx) (all : List Oper) : List Oper → Sf → Heap → (Sf → Heap → Prop) → Prop
  | [], G, H, K => K G H
  | o :: os, G, H, K => wp1 X all o G H fun G' H' => wpL X all os G' H' K

def wpS (X : Ctx) (all : List Oper) : List Oper → Sf → Heap → List (Sf × Heap) → (List (Sf × Heap) → Sf → Heap → Prop) → Prop
  | [], G, H, st, K => K (st ++ [(G, H)]) G H
  | o :: os, G, H, st, K => wp1 X all o G H fun G' H' => wpS X all os G' H' (st ++ [(G, H)]) K

def sameV : Option Value → Option Value → Prop
  | some v, some u => veq 3 v u = true
  | _, _ => False

/-- What is read is read again at another time. -/
def wpA (X : Ctx) (all : List Oper) (st : List (Sf × Heap)) : List (Nat × Nat) → Prop → Prop
  | [], A => A
  | (i, p) :: ps, A => match getN all i, getN st i, getN st p, getN st (i + 1) with
    | some o, some (Gi, _), some (_, Hp), some (G1, _) => wp1 X all o Gi Hp (fun G' _ => match o.dst with
      | some d => sameV (G'.t.get d) (G1.t.get d)
      | none => True) ∧ wpA X all st ps A
    | _, _, _, _ => False

def wpD (X : Ctx) (ops : List Oper) (G : Sf) (H : Heap) (K : Sf → Heap → Prop) : Prop :=
  match plan X.tt ops with
  | none => False
  | some [] => wpL X ops ops G H K
  | some ps => wpS X ops ops G H [] fun st G' H' => wpA X ops st ps (K G' H')

def fid : Code → Nat
  | .region id _ _ => id + 1
  | .seq a b => match fid a with
    | 0 => fid b
    | n + 1 => n + 1
  | .cond _ a b => match fid a with
    | 0 => fid b
    | n + 1 => n + 1
  | .block _ b => fid b
  | .loop b => fid b
  | _ => 0

def ForallV : Nat → (List Value → Prop) → Prop
  | 0, φ => φ []
  | n + 1, φ => ∀ x, ForallV n fun l => φ (x :: l)

def setAll : List Nat → List Value → T Value → T Value
  | k :: ks, v :: vs, t => setAll ks vs (t.set k (some v))
  | _, _, t => t

def clear {α : Type} : List Nat → T α → T α
  | [], t => t
  | k :: ks, t => clear ks (t.set k none)

def getAll (t : T Value) : List Nat → Option (List Value)
  | [] => some []
  | k :: ks => match t.get k, getAll t ks with
    | some v, some l => some (v :: l)
    | _, _ => none

def head (G : Sf) (ks cs : List Nat) (vs : List Value) : Sf := ⟨setAll ks vs (clear cs G.t), G.n, clear ks (clear cs G.kn)⟩

def atAll (ks : List Nat) (P : List Value → Heap → Prop) (G : Sf) (H : Heap) : Prop :=
  match getAll G.t ks with
  | some vs => P vs H
  | none => False

/-- The predicate of a text. hl: at which temporaries a loop's invariant looks; hj: those of a join. -/
def wpC (X : Ctx) (hl hj : Nat → Option (List Nat)) : Code → Sf → Heap → (Sf → Heap → Prop) → (Nat → Sf → Heap → Prop) → (Sf → Heap → Prop) → Prop
  | .skip, G, H, Kn, _, _ => Kn G H
  | .label _, G, H, Kn, _, _ => Kn G H
  | .ret, G, H, _, _, Kr => Kr G H
  | .exit id, G, H, _, Ke, _ => Ke id G H
  | .seq a b, G, H, Kn, Ke, Kr => match hj (fid b) with
    | none => wpC X hl hj a G H (fun G' H' => wpC X hl hj b G' H' Kn Ke Kr) Ke Kr
    | some ks => ∀ P : List Value → Heap → Prop, (ForallV ks.length fun vs => ∀ H', wpC X hl hj b (head G ks (chg a) vs) H' Kn Ke Kr → P vs H') → wpC X hl hj a G H (atAll ks P) Ke Kr
  | .cond x a b, G, H, Kn, Ke, Kr => match knO G.kn x with
    | some (some c) => cond (dfd G x) (cond c (wpC X hl hj a G H Kn Ke Kr) (wpC X hl hj b G H Kn Ke Kr)) False
    | _ => cond (dfd G x) (Br (G.eval x) (wpC X hl hj a (G.knowO x true) H Kn Ke Kr) (wpC X hl hj b (G.knowO x false) H Kn Ke Kr)) False
  | .block id b, G, H, Kn, Ke, Kr => wpC X hl hj b G H Kn (fun j G' H' => cond (Nat.beq j id) (Kn G' H') (Ke j G' H')) Kr
  | .loop b, G, H, _, Ke, Kr => match hl (fid b) with
    | none => False
    | some ks => ∀ P : List Value → Heap → Prop, (ForallV ks.length fun vs => ∀ H', wpC X hl hj b (head G ks (chg b) vs) H' (atAll ks P) Ke Kr → P vs H') → atAll ks P G H
  | .region _ ops false, G, H, Kn, _, _ => wpL X ops.toList ops.toList G H Kn
  | .region _ ops true, G, H, Kn, _, _ => wpD X ops.toList G H Kn
  | _, _, _, _, _, _ => False

def wpR (X : Ctx) (G : Sf) (H : Heap) : List ResultVar → List Value → (List Value → Prop) → Prop
  | [], l, K => K l
  | .tmp t :: rs, l, K => match G.t.get t with
    | some v => wpR X G H rs (l ++ [v]) K
    | none => False
  | .cell a t :: rs, l, K => match G.t.get a with
    | some p => Ok (load X H t p) fun v => wpR X G H rs (l ++ [v]) K
    | none => False

def retV (Q : Value → Prop) : List Value → Prop
  | [v] => Q v
  | l => Q (.tuple ⟨l⟩)

/-- The predicate of a function. -/
def wpF (X : Ctx) (hl hj : Nat → Option (List Nat)) (f : FuncId) (args : List Value) (H : Heap) (Q : Value → Heap → Prop) : Prop :=
  match X.ct.get f with
  | some fn => match fn.body with
    | some c => wpC X hl hj c ⟨T.ofList args, Nat.max fn.ntmps args.length, .leaf⟩ H (fun G H' => wpR X G H' fn.results.toList [] (retV fun v => Q v H')) (fun _ _ _ => False)
      (fun G H' => wpR X G H' fn.results.toList [] (retV fun v => Q v H'))
    | none => False
  | none => False

/-! Frames that know less. -/
structure Rl (F : Frm) (G : Sf) : Prop where
  n : F.n = G.n
  get : ∀ t v, G.t.get t = some v → F.t.get t = some v
  kn : ∀ t k, G.kn.get t = some k → F.t.get t = some (kv k)

theorem Rl.refl (t : T Value) (n : Nat) : Rl ⟨t, n⟩ ⟨t, n, .leaf⟩ := ⟨rfl, fun _ _ h => h, fun _ _ h => by simp at h⟩

theorem Rl.know {F : Frm} {G : Sf} (h : Rl F G) {t : Tmp} {b : Bool} (hv : G.t.get t = some (.bool b)) : Rl F (G.know t b) := by
  refine ⟨h.n, h.get, fun u c hu => ?_⟩
  simp only [Sf.know, T.get_set] at hu
  split at hu
  · rename_i e; subst e; cases hu; exact h.get _ _ hv
  · exact h.kn _ _ hu

theorem Rl.eval {F : Frm} {G : Sf} (h : Rl F G) {x : Operand} (hd : dfd G x = true) : F.eval x = G.eval x := by
  cases x with
  | tmp t =>
    simp only [dfd] at hd
    split at hd
    · rename_i v hv; simp only [Sf.eval, Sf.F, Frm.eval, hv, h.get t v hv]
    · cases hd
  | _ => rfl

theorem Rl.knowO {F : Frm} {G : Sf} (h : Rl F G) {x : Operand} {b : Bool} (hd : dfd G x = true) (hv : G.eval x = .bool b) : Rl F (G.knowO x b) := by
  cases x with
  | tmp t =>
    simp only [dfd] at hd
    split at hd
    · rename_i v hg
      simp only [Sf.eval, Sf.F, Frm.eval, hg, Option.getD_some] at hv
      subst hv
      exact h.know hg
    · cases hd
  | _ => exact h

theorem Rl.knO {F : Frm} {G : Sf} (h : Rl F G) {x : Operand} {b : Option Bool} (hk : knO G.kn x = some b) : F.eval x = kv b := by
  cases x with
  | tmp t => simp only [Frm.eval, h.kn t b hk, Option.getD_some]
  | const v =>
    cases v <;> simp only [Ev.knO] at hk
    all_goals first | cases hk; rfl | cases hk
  | _ => cases hk

theorem Rl.put {F : Frm} {G : Sf} (h : Rl F G) (d : Nat) (v : Value) (k : Option (Option Bool)) (hk : ∀ b, k = some b → v = kv b) : Rl ⟨F.t.set d (some v), F.n⟩ ⟨G.t.set d (some v), G.n, G.kn.set d k⟩ := by
  refine ⟨h.n, fun t u hu => ?_, fun t b hb => ?_⟩
  · simp only [T.get_set] at hu ⊢
    split at hu
    · rename_i e; simp only [e, if_true]; exact hu
    · rename_i e; simp only [e, if_false]; exact h.get _ _ hu
  · simp only [T.get_set] at hb ⊢
    split at hb
    · rename_i e; simp only [e, if_true]; rw [hk b hb]
    · rename_i e; simp only [e, if_false]; exact h.kn _ _ hb

theorem knR_step {X : Ctx} {call : Call} {F : Frm} {G : Sf} (h : Rl F G) {o : Op} {b : Option Bool} (hk : knR G.kn o = some b) {H H' : Heap} {v : Value} (hs : step X call F H o = some (v, H')) : v = kv b := by
  cases o with
  | move x => simp only [step, callee, op] at hs; cases hs; exact h.knO hk
  | assign x => simp only [step, callee, op] at hs; cases hs; exact h.knO hk
  | pick c x y =>
    simp only [knR] at hk
    split at hk
    · rename_i hc
      simp only [step, callee, op, h.knO hc, kv] at hs
      cases hs; exact h.knO hk
    · rename_i hc
      simp only [step, callee, op, h.knO hc, kv] at hs
      cases hs; exact h.knO hk
    · cases hk
  | _ => cases hk

section
variable {X : Ctx}

theorem wpO_sound {F : Frm} {G : Sf} {H : Heap} {o : Op} {K : Value → Heap → Prop} (hr : Rl F G) (hd : (opds o).all (dfd G) = true) (h : wpO X G H o K) : ∃ n v H', step X (callN X n) F H o = some (v, H') ∧ K v H' := by
  have hev : ∀ x ∈ opds o, F.eval x = G.eval x := fun x hx => hr.eval (List.all_eq_true.1 hd x hx)
  have hparts : ∀ (l : List (Nat × Operand)), (∀ x ∈ l.map (·.2), F.eval x = G.eval x) → (l.map fun p => (p.1, F.eval p.2)) = l.map fun p => (p.1, G.eval p.2) := by
    intro l hl
    refine List.map_congr_left fun p hp => ?_
    rw [hl p.2 (List.mem_map_of_mem hp)]
  have hargs : ∀ (l : List Operand), (∀ x ∈ l, F.eval x = G.eval x) → l.map F.eval = l.map G.eval := fun l hl => List.map_congr_left hl
  have hopt : ∀ (x : Option Operand), (∀ y ∈ x.toList, F.eval y = G.eval y) → x.map F.eval = x.map G.eval := by
    intro x hx
    cases x with
    | none => rfl
    | some y => simp only [Option.map_some]; rw [hx y (by simp)]
  cases o with
  | move x => simp [opds] at hev; exact ⟨0, G.eval x, H, by simp only [step, callee, op, hev], h⟩
  | assign x => simp [opds] at hev; exact ⟨0, G.eval x, H, by simp only [step, callee, op, hev], h⟩
  | pick c a b =>
    simp [opds] at hev
    obtain ⟨e1, e2, e3⟩ := hev
    simp only [wpO] at h
    split at h
    · rename_i hc
      exact ⟨0, G.eval a, H, by simp only [step, callee, op, hr.knO hc, kv, e2], h⟩
    · rename_i hc
      exact ⟨0, G.eval b, H, by simp only [step, callee, op, hr.knO hc, kv, e3], h⟩
    · obtain ⟨v, hv, k⟩ := h
      refine ⟨0, v, H, ?_, k⟩
      simp only [step, callee, op, e1, e2, e3]
      revert hv
      generalize G.eval c = z
      intro hv
      unfold pickV at hv
      split at hv
      · cases hv; rfl
      · cases hv; rfl
      · cases hv
  | alloc e =>
    simp only [wpO] at h
    split at h
    · rename_i i hi
      cases hb : Nat.beq i.zero.length i.size with
      | true => rw [hb] at h; exact ⟨0, .pointer (some ⟨H.next, 0, none⟩), H.alloc (.cells i.zero e), by simp only [step, callee, op, hi, hb, cond_true, newCells], h⟩
      | false => rw [hb] at h; cases h
    · cases h
  | box e x => simp [opds] at hev; exact ⟨0, .pointer (some ⟨H.next, 0, none⟩), H.alloc (.cells (cellsOf (G.eval x)) e), by simp only [step, callee, op, newCells, hev], h⟩
  | build t ps =>
    obtain ⟨v, hv, k⟩ := h
    exact ⟨0, v, H, by simp only [step, callee, op, hparts _ hev, hv], k⟩
  | buildSlice t n ps =>
    obtain ⟨v, H', hv, k⟩ := h
    exact ⟨0, v, H', by simp only [step, callee, op, hparts _ hev, hv], k⟩
  | load t a =>
    simp [opds] at hev
    simp only [wpO] at h
    split at h
    · rename_i i hi
      cases hg : i.agg with
      | true =>
        rw [hg] at h
        obtain ⟨p, l, e, hl, k⟩ := h
        exact ⟨0, .agg ⟨l⟩, H, by simp only [step, callee, op, hev, e, load, hi, hg, cond_true, hl], k⟩
      | false =>
        rw [hg] at h
        obtain ⟨p, v, e, hl, k⟩ := h
        exact ⟨0, v, H, by simp only [step, callee, op, hev, e, load, hi, hg, cond_false, hl], k⟩
    · cases h
  | store t a v =>
    simp [opds] at hev
    simp only [wpO] at h
    split at h
    · rename_i i hi
      obtain ⟨p, H', e, hlen, hw, k⟩ := h
      have hb : Nat.beq (cellsOf (G.eval v)).length i.size = true := by rw [hlen]; exact Nat.beq_refl _
      exact ⟨0, undef, H', by simp only [step, callee, op, hev.1, hev.2, e, store, hi, hb, cond_true, hw], k⟩
    · cases h
  | nilCheck x =>
    simp [opds] at hev
    obtain ⟨v, hv, k⟩ := h
    exact ⟨0, v, H, by simp only [step, callee, op, hev, hv], k⟩
  | binOp b t x y z =>
    simp [opds] at hev
    obtain ⟨v, hv, k⟩ := h
    exact ⟨0, v, H, by simp only [step, callee, op, hev.1, hev.2, hv], k⟩
  | unOp u t x =>
    simp [opds] at hev
    obtain ⟨v, hv, k⟩ := h
    exact ⟨0, v, H, by simp only [step, callee, op, hev, hv], k⟩
  | convert s d x =>
    simp [opds] at hev
    obtain ⟨v, H', hv, k⟩ := h
    exact ⟨0, v, H', by simp only [step, callee, op, hev, hv], k⟩
  | makeFunc fn first captured =>
    have e1 := hargs first.toList fun x hx => hev x (List.mem_append_left _ hx)
    have e2 := hargs captured.toList fun x hx => hev x (List.mem_append_right _ hx)
    exact ⟨0, .func fn ⟨first.toList.map G.eval⟩ ⟨captured.toList.map G.eval⟩, H, by simp only [step, callee, op, e1, e2], h⟩
  | makeMap t r =>
    simp only [wpO] at h
    split at h
    · rename_i i hi
      exact ⟨0, .map (some H.next), H.alloc (.map [] 0), by simp only [step, callee, op, hi], h⟩
    · cases h
  | makeSlice t l c =>
    simp [opds] at hev
    obtain ⟨v, H', hv, k⟩ := h
    exact ⟨0, v, H', by simp only [step, callee, op, hev.1, hev.2, hv], k⟩
  | slice t x lo hi mx =>
    obtain ⟨v, hv, k⟩ := h
    have e0 : F.eval x = G.eval x := hev x (by simp [opds])
    have e1 := hopt lo fun y hy => hev y (by simp [opds]; right; left; simpa using hy)
    have e2 := hopt hi fun y hy => hev y (by simp [opds]; right; right; left; simpa using hy)
    have e3 := hopt mx fun y hy => hev y (by simp [opds]; right; right; right; simpa using hy)
    exact ⟨0, v, H, by simp only [step, callee, op, e0, e1, e2, e3, hv], k⟩
  | fieldAddr t x f =>
    simp [opds] at hev
    simp only [wpO] at h
    split at h
    · rename_i i hi
      split at h
      · rename_i fs hk
        split at h
        · rename_i o ft s hg
          cases hb : Nat.beq s 0 with
          | true => rw [hb] at h; cases h
          | false =>
            rw [hb] at h
            obtain ⟨a, e, k⟩ := h
            exact ⟨0, .pointer (some (addA a o)), H, by simp only [step, callee, op, hev, e, fieldAddr, hi, hk, hg, hb, cond_false], k⟩
        · cases h
      · cases h
    · cases h
  | field t x f =>
    simp [opds] at hev
    obtain ⟨v, hv, k⟩ := h
    exact ⟨0, v, H, by simp only [step, callee, op, hev, hv], k⟩
  | indexAddr t x i =>
    simp [opds] at hev
    simp only [wpO] at h
    split at h
    · rename_i it hi
      split at h
      · rename_i e hk
        split at h
        · rename_i ie he
          obtain ⟨a, len, cap, k, n, ex, ei, h0, h1, kk⟩ := h
          exact ⟨0, .pointer (some (addA a (n.toNat * ie.size))), H, by simp only [step, callee, op, hev.1, hev.2, ex, ei, indexAddr, hi, hk, he, h0, h1, and_self, if_true], kk⟩
        · cases h
      · rename_i len e hk
        split at h
        · rename_i ie he
          obtain ⟨a, k, n, ex, ei, h0, h1, kk⟩ := h
          exact ⟨0, .pointer (some (addA a (n.toNat * ie.size))), H, by simp only [step, callee, op, hev.1, hev.2, ex, ei, indexAddr, hi, hk, he, h0, h1, and_self, if_true], kk⟩
        · cases h
      · cases h
    · cases h
  | index t x i =>
    simp [opds] at hev
    obtain ⟨v, hv, k⟩ := h
    exact ⟨0, v, H, by simp only [step, callee, op, hev.1, hev.2, hv], k⟩
  | lookup t m k ok =>
    simp [opds] at hev
    obtain ⟨v, hv, k⟩ := h
    exact ⟨0, v, H, by simp only [step, callee, op, hev.1, hev.2, hv], k⟩
  | mapUpdate t m k v =>
    simp [opds] at hev
    obtain ⟨H', hv, k⟩ := h
    exact ⟨0, undef, H', by simp only [step, callee, op, hev.1, hev.2.1, hev.2.2, hv], k⟩
  | extract x i =>
    simp [opds] at hev
    obtain ⟨v, hv, k⟩ := h
    exact ⟨0, v, H, by simp only [step, callee, op, hev, hv], k⟩
  | call c =>
    obtain ⟨cal, args, ats⟩ := c
    cases cal with
    | builtin b =>
      obtain ⟨v, H', hv, k⟩ := h
      have e1 := hargs args.toList hev
      exact ⟨0, v, H', by simp only [step, callee, op, e1, hv], k⟩
    | value f =>
      have e0 : F.eval f = G.eval f := hev f (by simp [opds])
      have e1 := hargs args.toList fun x hx => hev x (List.mem_cons_of_mem _ hx)
      simp only [wpO] at h
      split at h
      · rename_i g _
        obtain ⟨n, v, H', hc, k⟩ := h
        exact ⟨n, v, H', by simp only [step, callee, Frm.eval, List.nil_append, List.append_nil]; rw [e1]; exact hc, k⟩
      · obtain ⟨g, first, captured, hf, n, v, H', hc, k⟩ := h
        exact ⟨n, v, H', by simp only [step, callee, e0, hf, e1, hc], k⟩
    | invoke _ _ => cases h
  | _ => cases h

theorem wpP_sound {F : Frm} {G : Sf} {d : Option Tmp} {k : Option (Option Bool)} {v : Value} {K : Sf → Prop} (hr : Rl F G) (hk : ∀ b, k = some b → v = kv b) (h : wpP G d k v K) : ∃ F' G', F.put d v = some F' ∧ Rl F' G' ∧ K G' := by
  cases d with
  | none => exact ⟨F, G, rfl, hr, h⟩
  | some d =>
    simp only [wpP] at h
    cases hb : Nat.blt d G.n with
    | false => rw [hb] at h; cases h
    | true =>
      rw [hb] at h
      obtain ⟨t, n⟩ := F
      have hn : n = G.n := hr.n
      exact ⟨⟨t.set d (some v), n⟩, _, by simp only [Frm.put, hn, hb, cond_true], hr.put d v k hk, h⟩

theorem wanted_sound {F : Frm} {G : Sf} {all : List Oper} {o : Oper} {A B : Sf → Prop} (hr : Rl F G) (h : wanted G all o A B) : ∃ G', Rl F G' ∧ G'.t = G.t ∧ ((wantedBy F all o = true ∧ A G') ∨ (wantedBy F all o = false ∧ B G')) := by
  unfold wanted at h
  unfold wantedBy
  cases hg : o.guard with
  | none => rw [hg] at h; exact ⟨G, hr, rfl, .inl ⟨rfl, h⟩⟩
  | some p =>
    obtain ⟨j, want⟩ := p
    rw [hg] at h
    simp only at h ⊢
    cases h2 : getN all j with
    | none => rw [h2] at h; cases h
    | some g =>
      rw [h2] at h
      simp only at h ⊢
      cases h3 : g.dst with
      | none => rw [h3] at h; cases h
      | some d =>
        rw [h3] at h
        simp only at h ⊢
        cases h5 : G.kn.get d with
        | some c =>
          rw [h5] at h
          rw [hr.kn _ _ h5]
          refine ⟨G, hr, rfl, ?_⟩
          cases c with
          | none => exact .inr ⟨rfl, h⟩
          | some b => cases want <;> cases b <;> first | exact .inl ⟨rfl, h⟩ | exact .inr ⟨rfl, h⟩
        | none =>
          rw [h5] at h
          simp only at h
          cases h4 : G.t.get d with
          | none => rw [h4] at h; cases h
          | some v =>
            rw [h4] at h
            rw [hr.get _ _ h4]
            cases want with
            | true =>
              rcases h with ⟨rfl, k⟩ | ⟨rfl, k⟩
              · exact ⟨_, hr.know h4, rfl, .inl ⟨rfl, k⟩⟩
              · exact ⟨_, hr.know h4, rfl, .inr ⟨rfl, k⟩⟩
            | false =>
              rcases h with ⟨rfl, k⟩ | ⟨rfl, k⟩
              · exact ⟨_, hr.know h4, rfl, .inr ⟨rfl, k⟩⟩
              · exact ⟨_, hr.know h4, rfl, .inl ⟨rfl, k⟩⟩

theorem dfd_same {G G' : Sf} (h : G'.t = G.t) (l : List Operand) : l.all (dfd G') = l.all (dfd G) := by
  have : dfd G' = dfd G := by funext x; cases x <;> simp only [dfd, h]
  rw [this]

theorem wp1_sound {all : List Oper} {o : Oper} {F : Frm} {G : Sf} {H : Heap} {K : Sf → Heap → Prop} (hr : Rl F G) (h : wp1 X all o G H K) : ∃ n F' G' H', run1 X (callN X n) all o F H = some (F', H') ∧ Rl F' G' ∧ K G' H' := by
  unfold wp1 at h
  cases hd : (opds o.op).all (dfd G) with
  | false => rw [hd] at h; cases h
  | true =>
    rw [hd] at h
    simp only [cond_true] at h
    obtain ⟨Gw, hrw, hsame, h⟩ := wanted_sound hr h
    rw [← dfd_same hsame] at hd
    rcases h with ⟨hw, h⟩ | ⟨hw, h⟩
    · obtain ⟨n, v, H', hs, hp⟩ := wpO_sound hrw hd h
      obtain ⟨F', G', h1, h2, h3⟩ := wpP_sound hrw (fun b hb => knR_step hrw hb hs) hp
      exact ⟨n, F', G', H', by simp only [run1, hw, cond_true, hs, h1], h2, h3⟩
    · obtain ⟨F', G', h1, h2, h3⟩ := wpP_sound hrw (fun b hb => by cases hb; rfl) h
      exact ⟨0, F', G', H, by simp only [run1, hw, cond_false, h1], h2, h3⟩

theorem wpL_sound {all : List Oper} : ∀ {os : List Oper} {F : Frm} {G : Sf} {H : Heap} {K : Sf → Heap → Prop}, Rl F G → wpL X all os G H K → ∃ n F' G' H', runL X (callN X n) all os F H = some (F', H') ∧ Rl F' G' ∧ K G' H'
  | [], F, G, H, K, hr, h => ⟨0, F, G, H, rfl, hr, h⟩
  | o :: os, F, G, H, K, hr, h => by
    obtain ⟨n1, F1, G1, H1, e1, r1, h1⟩ := wp1_sound hr h
    obtain ⟨n2, F2, G2, H2, e2, r2, h2⟩ := wpL_sound r1 h1
    exact ⟨max n1 n2, F2, G2, H2, by simp only [runL, run1_le (callN_le (Nat.le_max_left n1 n2)) e1, runL_le (callN_le (Nat.le_max_right n1 n2)) e2], r2, h2⟩

/-- States that know less. -/
def Rst (a : List (Frm × Heap)) (b : List (Sf × Heap)) : Prop := a.length = b.length ∧ ∀ i G H, getN b i = some (G, H) → ∃ F, getN a i = some (F, H) ∧ Rl F G

theorem Rst.one {F : Frm} {G : Sf} {H : Heap} (hr : Rl F G) : Rst [(F, H)] [(G, H)] := by
  refine ⟨rfl, fun i G' H' h => ?_⟩
  cases i with
  | zero => simp only [getN] at h; cases h; exact ⟨F, rfl, hr⟩
  | succ i => simp only [getN] at h; cases h

theorem Rst.append {a c : List (Frm × Heap)} {b d : List (Sf × Heap)} (h : Rst a b) (h' : Rst c d) : Rst (a ++ c) (b ++ d) := by
  refine ⟨by simp [h.1, h'.1], fun i G H hg => ?_⟩
  rw [getN_eq] at hg ⊢
  rcases Nat.lt_or_ge i b.length with hi | hi
  · rw [List.getElem?_append_left hi] at hg
    obtain ⟨F, h1, h2⟩ := h.2 i G H (by rw [getN_eq]; exact hg)
    rw [getN_eq] at h1
    exact ⟨F, by rw [List.getElem?_append_left (by rw [h.1]; exact hi)]; exact h1, h2⟩
  · rw [List.getElem?_append_right hi] at hg
    obtain ⟨F, h1, h2⟩ := h'.2 _ G H (by rw [getN_eq]; exact hg)
    rw [getN_eq] at h1
    exact ⟨F, by rw [List.getElem?_append_right (by rw [h.1]; exact hi), h.1]; exact h1, h2⟩

theorem wpS_sound {all : List Oper} : ∀ {os : List Oper} {F : Frm} {G : Sf} {H : Heap} {sb : List (Sf × Heap)} {K : List (Sf × Heap) → Sf → Heap → Prop}, Rl F G → wpS X all os G H sb K →
    ∃ n F' G' H' ra rb, runS X (callN X n) all os F H = some ra ∧ Rst ra rb ∧ getN ra os.length = some (F', H') ∧ Rl F' G' ∧ K (sb ++ rb) G' H'
  | [], F, G, H, sb, K, hr, h => ⟨0, F, G, H, _, _, rfl, .one hr, rfl, hr, h⟩
  | o :: os, F, G, H, sb, K, hr, h => by
    obtain ⟨n1, F1, G1, H1, e1, r1, h1⟩ := wp1_sound hr h
    obtain ⟨n2, F2, G2, H2, ra, rb, e2, s2, g2, r2, h2⟩ := wpS_sound r1 h1
    refine ⟨max n1 n2, F2, G2, H2, (F, H) :: ra, (G, H) :: rb, ?_, (Rst.one hr).append s2, g2, r2, ?_⟩
    · simp only [runS, run1_le (callN_le (Nat.le_max_left n1 n2)) e1, runS_le (callN_le (Nat.le_max_right n1 n2)) e2]
    · rw [List.append_assoc] at h2; exact h2

theorem wpA_sound {all : List Oper} {sa : List (Frm × Heap)} {sb : List (Sf × Heap)} (hs : Rst sa sb) : ∀ {ps : List (Nat × Nat)} {A : Prop}, wpA X all sb ps A → (∃ n, ps.all (asked X (callN X n) all sa) = true) ∧ A
  | [], A, h => ⟨⟨0, rfl⟩, h⟩
  | (i, p) :: ps, A, h => by
    simp only [wpA] at h
    split at h
    · rename_i o Gi Hi Gp Hp G1 H1 a1 a2 a3 a4
      obtain ⟨ha, hb⟩ := h
      obtain ⟨⟨n2, hn2⟩, hA⟩ := wpA_sound hs hb
      obtain ⟨Fi, b2, r2⟩ := hs.2 _ _ _ a2
      obtain ⟨Fp, b3, r3⟩ := hs.2 _ _ _ a3
      obtain ⟨F1, b4, r4⟩ := hs.2 _ _ _ a4
      obtain ⟨n1, F', G', H', e1, r', k⟩ := wp1_sound r2 ha
      refine ⟨⟨max n1 n2, ?_⟩, hA⟩
      rw [List.all_cons, Bool.and_eq_true]
      refine ⟨?_, List.all_eq_true.2 fun q hq => asked_le (callN_le (Nat.le_max_right n1 n2)) (List.all_eq_true.1 hn2 q hq)⟩
      refine asked_le (callN_le (Nat.le_max_left n1 n2)) ?_
      simp only [asked, a1, b2, b3, b4, e1]
      cases hd : o.dst with
      | none => rfl
      | some d =>
        rw [hd] at k
        simp only at k ⊢
        cases h1 : G'.t.get d with
        | none => rw [h1] at k; cases k
        | some v =>
          cases h2 : G1.t.get d with
          | none => rw [h1, h2] at k; cases k
          | some u =>
            rw [h1, h2] at k
            rw [r'.get _ _ h1, r4.get _ _ h2]
            exact k
    · cases h

theorem wpD_sound {os : List Oper} {F : Frm} {G : Sf} {H : Heap} {K : Sf → Heap → Prop} (hr : Rl F G) (h : wpD X os G H K) : ∃ n F' G' H', drawn X (callN X n) os F H = some (F', H') ∧ Rl F' G' ∧ K G' H' := by
  unfold wpD at h
  split at h
  · cases h
  · rename_i hp
    obtain ⟨n, F', G', H', e, r, k⟩ := wpL_sound hr h
    exact ⟨n, F', G', H', by simp only [drawn, hp, e], r, k⟩
  · rename_i ps hne hp
    obtain ⟨n, F', G', H', ra, rb, e, s, g, r, k⟩ := wpS_sound hr h
    obtain ⟨⟨n2, hn2⟩, hA⟩ := wpA_sound s k
    refine ⟨max n n2, F', G', H', ?_, r, hA⟩
    have h1 := runS_le (callN_le (Nat.le_max_left n n2)) e
    have h2 : ps.all (asked X (callN X (max n n2)) os ra) = true := List.all_eq_true.2 fun q hq => asked_le (callN_le (Nat.le_max_right n n2)) (List.all_eq_true.1 hn2 q hq)
    unfold drawn
    rw [hp]
    simp only [h1, h2, cond_true, g]
end

theorem ForallV_all {n : Nat} : ∀ {φ : List Value → Prop}, ForallV n φ → ∀ l : List Value, l.length = n → φ l := by
  induction n with
  | zero => intro φ h l hl; have := List.length_eq_zero_iff.1 hl; subst this; exact h
  | succ n ih =>
    intro φ h l hl
    cases l with
    | nil => cases hl
    | cons x l => exact ih (h x) l (by simpa using hl)

theorem ForallV_of {n : Nat} : ∀ {φ : List Value → Prop}, (∀ l : List Value, l.length = n → φ l) → ForallV n φ := by
  induction n with
  | zero => intro φ h; exact h [] rfl
  | succ n ih => intro φ h x; exact ih fun l hl => h (x :: l) (by simp [hl])

theorem getAll_length {t : T Value} : ∀ {ks : List Nat} {vs : List Value}, getAll t ks = some vs → vs.length = ks.length
  | [], vs, h => by cases h; rfl
  | k :: ks, vs, h => by
    simp only [getAll] at h
    split at h
    · rename_i v l h1 h2; cases h; simp [getAll_length h2]
    · cases h

theorem get_clear {α : Type} : ∀ (cs : List Nat) (t : T α) (k : Nat) (v : α), (clear cs t).get k = some v → t.get k = some v ∧ k ∉ cs
  | [], t, k, v, h => ⟨h, by simp⟩
  | c :: cs, t, k, v, h => by
    obtain ⟨h1, h2⟩ := get_clear cs _ k v h
    rw [T.get_set] at h1
    split at h1
    · cases h1
    · rename_i hk; exact ⟨h1, by simp [hk, h2]⟩

/-- A temporary of a head is set, or is as it was ahead and not written. -/
theorem get_setAll : ∀ (ks : List Nat) (vs : List Value) (t : T Value) (k : Nat) (v : Value), (setAll ks vs t).get k = some v → (t.get k = some v ∧ True) ∨ (∃ i : Nat, ks[i]? = some k ∧ vs[i]? = some v)
  | [], _, t, k, v, h => .inl ⟨h, trivial⟩
  | _ :: _, [], t, k, v, h => .inl ⟨h, trivial⟩
  | j :: ks, u :: vs, t, k, v, h => by
    rcases get_setAll ks vs _ k v h with ⟨h1, -⟩ | ⟨i, h1, h2⟩
    · rw [T.get_set] at h1
      split at h1
      · rename_i e; subst e; cases h1; exact .inr ⟨0, rfl, rfl⟩
      · exact .inl ⟨h1, trivial⟩
    · exact .inr ⟨i + 1, h1, h2⟩

theorem getAll_get {t : T Value} : ∀ {ks : List Nat} {vs : List Value}, getAll t ks = some vs → ∀ (i k : Nat) (v : Value), ks[i]? = some k → vs[i]? = some v → t.get k = some v
  | [], vs, h, i, k, v, h1, _ => by simp at h1
  | j :: ks, vs, h, i, k, v, h1, h2 => by
    simp only [getAll] at h
    split at h
    · rename_i u l g1 g2
      cases h
      cases i with
      | zero => simp at h1 h2; subst h1; subst h2; exact g1
      | succ i => exact getAll_get g2 i k v (by simpa using h1) (by simpa using h2)
    · cases h

theorem head_rl {F F' : Frm} {G G' : Sf} {ks cs : List Nat} {vs : List Value} (h0 : Rl F G) (hk : Keep cs F F') (h1 : Rl F' G') (hg : getAll G'.t ks = some vs) : Rl F' (head G ks cs vs) := by
  refine ⟨by rw [hk.1]; exact h0.n, fun t v h => ?_, fun t b h => ?_⟩
  rcases get_setAll ks vs _ t v h with ⟨h, -⟩ | ⟨i, h2, h3⟩
  · obtain ⟨h2, h3⟩ := get_clear _ _ _ _ h
    rw [hk.2 t h3]
    exact h0.get t v h2
  · exact h1.get t v (getAll_get hg i t v h2 h3)
  · obtain ⟨h2, -⟩ := get_clear _ _ _ _ h
    obtain ⟨h3, h4⟩ := get_clear _ _ _ _ h2
    rw [hk.2 t h4]
    exact h0.kn t b h3

theorem head_keep {F F' : Frm} {G : Sf} {ks cs : List Nat} {vs vs' : List Value} (h : Rl F (head G ks cs vs)) (hk : Keep cs F F') {G' : Sf} (h1 : Rl F' G') (hg : getAll G'.t ks = some vs') : Rl F' (head G ks cs vs') := by
  refine ⟨by rw [hk.1]; exact h.n, fun t v ht => ?_, fun t b hb => ?_⟩
  case refine_2 =>
    have h2 := get_clear _ _ _ _ hb
    have h3 := get_clear _ _ _ _ h2.1
    rw [hk.2 t h3.2]
    exact h.kn t b hb
  by_cases hmem : t ∈ ks
  · rcases get_setAll ks vs' _ t v ht with ⟨h2, -⟩ | ⟨i, h2, h3⟩
    · -- t is set by the head, whatever lay there
      obtain ⟨i, hi⟩ := List.getElem?_of_mem hmem
      have hlen := getAll_length hg
      have hset : ∀ (ks : List Nat) (vs : List Value) (t0 : T Value), vs.length = ks.length → t ∈ ks → ∃ (i : Nat) (u : Value), ks[i]? = some t ∧ vs[i]? = some u ∧ (setAll ks vs t0).get t = some u := by
        intro ks
        induction ks with
        | nil => intro vs t0 _ hm; cases hm
        | cons j ks ih =>
          intro vs t0 hl hm
          cases vs with
          | nil => cases hl
          | cons u vs =>
            by_cases hin : t ∈ ks
            · obtain ⟨i, u', a, b, c⟩ := ih vs (t0.set j (some u)) (by simpa using hl) hin
              exact ⟨i + 1, u', by simpa using a, by simpa using b, c⟩
            · have hj : t = j := by simpa [hin] using hm
              subst hj
              refine ⟨0, u, rfl, rfl, ?_⟩
              have hno : ∀ (ks : List Nat) (vs : List Value) (t0 : T Value), t ∉ ks → (setAll ks vs t0).get t = t0.get t := by
                intro ks
                induction ks with
                | nil => intro vs t0 _; rfl
                | cons j ks ih =>
                  intro vs t0 hn
                  cases vs with
                  | nil => rfl
                  | cons u vs =>
                    simp only [setAll]
                    rw [ih vs _ (fun h => hn (List.mem_cons_of_mem _ h)), T.get_set, if_neg (fun e => hn (by simp [e]))]
              simp only [setAll]
              rw [hno ks vs _ hin, T.get_set, if_pos rfl]
      obtain ⟨i, u, a, b, c⟩ := hset ks vs' _ hlen hmem
      have : v = u := by
        have hh : (head G ks cs vs').t.get t = some u := c
        rw [hh] at ht; exact (Option.some.inj ht).symm
      subst this
      exact h1.get t _ (getAll_get hg i t _ a b)
    · exact h1.get t v (getAll_get hg i t v h2 h3)
  · rcases get_setAll ks vs' _ t v ht with ⟨h2, -⟩ | ⟨i, h2, h3⟩
    · obtain ⟨h4, h5⟩ := get_clear _ _ _ _ h2
      rw [hk.2 t h5]
      refine h.get t v ?_
      have hno : ∀ (ks : List Nat) (vs : List Value) (t0 : T Value), t ∉ ks → (setAll ks vs t0).get t = t0.get t := by
        intro ks
        induction ks with
        | nil => intro vs t0 _; rfl
        | cons j ks ih =>
          intro vs t0 hn
          cases vs with
          | nil => rfl
          | cons u vs =>
            simp only [setAll]
            rw [ih vs _ (fun h => hn (List.mem_cons_of_mem _ h)), T.get_set, if_neg (fun e => hn (by simp [e]))]
      show (setAll ks vs (clear cs G.t)).get t = some v
      rw [hno ks vs _ hmem]
      exact h2
    · exact absurd (List.mem_of_getElem? h2) hmem

/-- What a run ends in. -/
def Post (Kn : Sf → Heap → Prop) (Ke : Nat → Sf → Heap → Prop) (Kr : Sf → Heap → Prop) (o : Out) : Prop :=
  match o with
  | ⟨.normal, F, H⟩ => ∃ G, Rl F G ∧ Kn G H
  | ⟨.exit j, F, H⟩ => ∃ G, Rl F G ∧ Ke j G H
  | ⟨.ret, F, H⟩ => ∃ G, Rl F G ∧ Kr G H

def W (X : Ctx) (c : Code) (F : Frm) (H : Heap) (Q : Out → Prop) : Prop := ∃ n o, ev X n c F H = some o ∧ Q o

section
variable {X : Ctx}

theorem W.seq {a b : Code} {F : Frm} {H : Heap} {Q : Out → Prop} (h : W X a F H fun o => match o with
    | ⟨.normal, F', H'⟩ => W X b F' H' Q
    | o => Q o) : W X (.seq a b) F H Q := by
  obtain ⟨n, o, e, k⟩ := h
  obtain ⟨x, F', H'⟩ := o
  cases x with
  | normal =>
    obtain ⟨n2, o2, e2, k2⟩ := k
    refine ⟨max n n2 + 1, o2, ?_, k2⟩
    rw [ev_succ]
    simp only [codeStep, ev_le (Nat.le_max_left n n2) _ _ _ _ e]
    exact ev_le (Nat.le_max_right n n2) _ _ _ _ e2
  | exit j => exact ⟨n + 1, _, by rw [ev_succ]; simp only [codeStep, e], k⟩
  | ret => exact ⟨n + 1, _, by rw [ev_succ]; simp only [codeStep, e], k⟩

theorem W.mono {c : Code} {F : Frm} {H : Heap} {Q Q' : Out → Prop} (h : W X c F H Q) (k : ∀ o, Keep (chg c) F o.F → Q o → Q' o) : W X c F H Q' := by
  obtain ⟨n, o, e, q⟩ := h
  exact ⟨n, o, e, k o (ev_keep e) q⟩

section
variable {hl hj : Nat → Option (List Nat)} {a b : Code} {G : Sf} {H : Heap} {Kn : Sf → Heap → Prop} {Ke : Nat → Sf → Heap → Prop} {Kr : Sf → Heap → Prop}
theorem wpC_seq : wpC X hl hj (.seq a b) G H Kn Ke Kr = (match hj (fid b) with
    | none => wpC X hl hj a G H (fun G' H' => wpC X hl hj b G' H' Kn Ke Kr) Ke Kr
    | some ks => ∀ P : List Value → Heap → Prop, (ForallV ks.length fun vs => ∀ H', wpC X hl hj b (head G ks (chg a) vs) H' Kn Ke Kr → P vs H') → wpC X hl hj a G H (atAll ks P) Ke Kr) := rfl
theorem wpC_cond {x : Operand} : wpC X hl hj (.cond x a b) G H Kn Ke Kr = (match knO G.kn x with
    | some (some c) => cond (dfd G x) (cond c (wpC X hl hj a G H Kn Ke Kr) (wpC X hl hj b G H Kn Ke Kr)) False
    | _ => cond (dfd G x) (Br (G.eval x) (wpC X hl hj a (G.knowO x true) H Kn Ke Kr) (wpC X hl hj b (G.knowO x false) H Kn Ke Kr)) False) := rfl
theorem wpC_block {id : Nat} : wpC X hl hj (.block id b) G H Kn Ke Kr = wpC X hl hj b G H Kn (fun j G' H' => cond (Nat.beq j id) (Kn G' H') (Ke j G' H')) Kr := rfl
theorem wpC_loop : wpC X hl hj (.loop b) G H Kn Ke Kr = (match hl (fid b) with
    | none => False
    | some ks => ∀ P : List Value → Heap → Prop, (ForallV ks.length fun vs => ∀ H', wpC X hl hj b (head G ks (chg b) vs) H' (atAll ks P) Ke Kr → P vs H') → atAll ks P G H) := rfl
end

theorem wpC_sound {hl hj : Nat → Option (List Nat)} : ∀ (c : Code) {F : Frm} {G : Sf} {H : Heap} {Kn : Sf → Heap → Prop} {Ke : Nat → Sf → Heap → Prop} {Kr : Sf → Heap → Prop}, Rl F G → wpC X hl hj c G H Kn Ke Kr → W X c F H (Post Kn Ke Kr) := by
  intro c
  induction c with
  | skip => intro F G H Kn Ke Kr hr h; exact ⟨1, ⟨.normal, F, H⟩, by rw [ev_succ]; rfl, G, hr, h⟩
  | label _ => intro F G H Kn Ke Kr hr h; exact ⟨1, ⟨.normal, F, H⟩, by rw [ev_succ]; rfl, G, hr, h⟩
  | ret => intro F G H Kn Ke Kr hr h; exact ⟨1, ⟨.ret, F, H⟩, by rw [ev_succ]; rfl, G, hr, h⟩
  | exit id => intro F G H Kn Ke Kr hr h; exact ⟨1, ⟨.exit id, F, H⟩, by rw [ev_succ]; rfl, G, hr, h⟩
  | seq a b iha ihb =>
    intro F G H Kn Ke Kr hr h
    rw [wpC_seq] at h
    refine W.seq ?_
    split at h
    · refine (iha hr h).mono ?_
      rintro ⟨x, F', H'⟩ - q
      cases x with
      | normal => obtain ⟨G', r', k⟩ := q; exact ihb r' k
      | exit j => exact q
      | ret => exact q
    · rename_i ks _
      have h2 := h (fun vs H' => vs.length = ks.length ∧ wpC X hl hj b (head G ks (chg a) vs) H' Kn Ke Kr) (ForallV_of fun l hl H' hw => ⟨hl, hw⟩)
      refine (iha hr h2).mono ?_
      rintro ⟨x, F', H'⟩ hk q
      cases x with
      | normal =>
        obtain ⟨G', r', k⟩ := q
        unfold atAll at k
        split at k
        · rename_i vs hv
          exact ihb (head_rl hr hk r' hv) k.2
        · cases k
      | exit j => exact q
      | ret => exact q
  | cond x a b iha ihb =>
    intro F G H Kn Ke Kr hr h
    rw [wpC_cond] at h
    split at h
    · rename_i c hc
      cases hd : dfd G x with
      | false => rw [hd] at h; cases h
      | true =>
        rw [hd] at h
        cases c with
        | true =>
          obtain ⟨n, o, eo, q⟩ := iha hr h
          exact ⟨n + 1, o, by rw [ev_succ]; simp only [codeStep, hr.knO hc, kv, eo], q⟩
        | false =>
          obtain ⟨n, o, eo, q⟩ := ihb hr h
          exact ⟨n + 1, o, by rw [ev_succ]; simp only [codeStep, hr.knO hc, kv, eo], q⟩
    · cases hd : dfd G x with
      | false => rw [hd] at h; cases h
      | true =>
        rw [hd] at h
        rcases h with ⟨e, k⟩ | ⟨e, k⟩
        · obtain ⟨n, o, eo, q⟩ := iha (hr.knowO hd e) k
          exact ⟨n + 1, o, by rw [ev_succ]; simp only [codeStep, hr.eval hd, e, eo], q⟩
        · obtain ⟨n, o, eo, q⟩ := ihb (hr.knowO hd e) k
          exact ⟨n + 1, o, by rw [ev_succ]; simp only [codeStep, hr.eval hd, e, eo], q⟩
  | block id b ih =>
    intro F G H Kn Ke Kr hr h
    rw [wpC_block] at h
    obtain ⟨n, o, eo, q⟩ := ih hr h
    obtain ⟨x, F', H'⟩ := o
    cases x with
    | normal => exact ⟨n + 1, ⟨.normal, F', H'⟩, by rw [ev_succ]; simp only [codeStep, eo], q⟩
    | ret => exact ⟨n + 1, ⟨.ret, F', H'⟩, by rw [ev_succ]; simp only [codeStep, eo], q⟩
    | exit j =>
      obtain ⟨G', r', k⟩ := q
      cases hb : Nat.beq j id with
      | true => rw [hb] at k; exact ⟨n + 1, ⟨.normal, F', H'⟩, by rw [ev_succ]; simp only [codeStep, eo, hb, cond_true], G', r', k⟩
      | false => rw [hb] at k; exact ⟨n + 1, ⟨.exit j, F', H'⟩, by rw [ev_succ]; simp only [codeStep, eo, hb, cond_false], G', r', k⟩
  | loop b ih =>
    intro F G H Kn Ke Kr hr h
    rw [wpC_loop] at h
    split at h
    · cases h
    · rename_i ks _
      have h2 := h (fun vs H' => vs.length = ks.length → ∀ F', Rl F' (head G ks (chg b) vs) → W X (.loop b) F' H' (Post Kn Ke Kr)) (ForallV_of fun vs hl H' hw _ F' hr' => ?_)
      · unfold atAll at h2
        split at h2
        · rename_i vs hv
          exact h2 (getAll_length hv) F (head_rl hr (.refl _ _) hr hv)
        · cases h2
      · obtain ⟨n, o, eo, q⟩ := ih hr' hw
        have hk := ev_keep eo
        obtain ⟨x, F1, H1⟩ := o
        cases x with
        | normal =>
          obtain ⟨G', r', k⟩ := q
          unfold atAll at k
          split at k
          · rename_i vs' hv'
            obtain ⟨n2, o2, e2, q2⟩ := k (getAll_length hv') F1 (head_keep hr' hk r' hv')
            refine ⟨max n n2 + 1, o2, ?_, q2⟩
            rw [ev_succ]
            simp only [codeStep, ev_le (Nat.le_max_left n n2) _ _ _ _ eo]
            exact ev_le (Nat.le_max_right n n2) _ _ _ _ e2
          · cases k
        | exit j => exact ⟨n + 1, ⟨.exit j, F1, H1⟩, by rw [ev_succ]; simp only [codeStep, eo], q⟩
        | ret => exact ⟨n + 1, ⟨.ret, F1, H1⟩, by rw [ev_succ]; simp only [codeStep, eo], q⟩
  | region id ops d =>
    intro F G H Kn Ke Kr hr h
    cases d with
    | false =>
      obtain ⟨n, F', G', H', e, r, k⟩ := wpL_sound hr h
      exact ⟨n + 1, ⟨.normal, F', H'⟩, by rw [ev_succ]; simp only [codeStep]; rw [show callOf X (ev X n) = callN X n from rfl, e], G', r, k⟩
    | true =>
      obtain ⟨n, F', G', H', e, r, k⟩ := wpD_sound hr h
      exact ⟨n + 1, ⟨.normal, F', H'⟩, by rw [ev_succ]; simp only [codeStep]; rw [show callOf X (ev X n) = callN X n from rfl, e], G', r, k⟩
  | rangeFunc _ _ _ _ => intro F G H Kn Ke Kr hr h; exact False.elim h
  | scope _ => intro F G H Kn Ke Kr hr h; exact False.elim h
  | goto _ => intro F G H Kn Ke Kr hr h; exact False.elim h
  | refuse _ => intro F G H Kn Ke Kr hr h; exact False.elim h

theorem wpR_sound {F : Frm} {G : Sf} {H : Heap} (hr : Rl F G) : ∀ {rs : List ResultVar} {l : List Value} {K : List Value → Prop}, wpR X G H rs l K → ∃ r, resL X F H rs = some r ∧ K (l ++ r)
  | [], l, K, h => ⟨[], rfl, by rw [List.append_nil]; exact h⟩
  | .tmp t :: rs, l, K, h => by
    simp only [wpR] at h
    split at h
    · rename_i v hv
      obtain ⟨r, e, k⟩ := wpR_sound hr h
      exact ⟨v :: r, by simp only [resL, resV, hr.get _ _ hv, e, Option.getD_some], by rw [List.append_assoc] at k; exact k⟩
    · cases h
  | .cell a t :: rs, l, K, h => by
    simp only [wpR] at h
    split at h
    · rename_i p hp
      obtain ⟨v, hv, k⟩ := h
      obtain ⟨r, e, k⟩ := wpR_sound hr k
      exact ⟨v :: r, by simp only [resL, resV, hr.get _ _ hp, e, Option.getD_some, hv], by rw [List.append_assoc] at k; exact k⟩
    · cases h

theorem result_of {F : Frm} {H : Heap} {rs : List ResultVar} {r : List Value} (h : resL X F H rs = some r) {Q : Value → Prop} (k : retV Q r) : ∃ v, result X rs F H = some v ∧ Q v := by
  unfold result
  rw [h]
  match r, k with
  | [v], k => exact ⟨v, rfl, k⟩
  | [], k => exact ⟨_, rfl, k⟩
  | _ :: _ :: _, k => exact ⟨_, rfl, k⟩

/-- A call comes back, if the function's predicate says so. -/
theorem C_of {hl hj : Nat → Option (List Nat)} {f : FuncId} {args : List Value} {H : Heap} {Q : Value → Heap → Prop} (hs : X.spec f = none) (h : wpF X hl hj f args H Q) : C X f args H Q := by
  unfold wpF at h
  split at h
  · rename_i fn hf
    split at h
    · rename_i c hc
      obtain ⟨n, o, e, q⟩ := wpC_sound c (Rl.refl _ _) h
      obtain ⟨x, F', H'⟩ := o
      cases x with
      | normal =>
        obtain ⟨G', r', k⟩ := q
        obtain ⟨r, e1, k1⟩ := wpR_sound r' k
        obtain ⟨v, e2, k2⟩ := result_of e1 (Q := fun v => Q v H') k1
        exact ⟨n, v, H', by simp only [callN, callOf, hs, hf, hc, e, e2], k2⟩
      | ret =>
        obtain ⟨G', r', k⟩ := q
        obtain ⟨r, e1, k1⟩ := wpR_sound r' k
        obtain ⟨v, e2, k2⟩ := result_of e1 (Q := fun v => Q v H') k1
        exact ⟨n, v, H', by simp only [callN, callOf, hs, hf, hc, e, e2], k2⟩
      | exit j => obtain ⟨G', r', k⟩ := q; cases k
    · cases h
  · cases h

theorem C_spec {f : FuncId} {s : List Value → Heap → Option (Value × Heap)} {args : List Value} {H H' : Heap} {v : Value} {Q : Value → Heap → Prop} (hs : X.spec f = some s) (h : s args H = some (v, H')) (k : Q v H') : C X f args H Q :=
  ⟨0, v, H', by simp only [callN, callOf, hs, h], k⟩

theorem C_mono {f : FuncId} {args : List Value} {H : Heap} {Q Q' : Value → Heap → Prop} (h : C X f args H Q) (k : ∀ v H', Q v H' → Q' v H') : C X f args H Q' := by
  obtain ⟨n, v, H', e, q⟩ := h
  exact ⟨n, v, H', e, k v H' q⟩
end

end
end Ev
end Go.Proofs.Ytglkgmomnbdkoaa
