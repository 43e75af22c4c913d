/- The evaluator itself, and what ties its tables of types and functions to a program. -/
import Derived.Test.YtglkgmomnbdkoaaEv1
namespace Go.Proofs.Ytglkgmomnbdkoaa
namespace Ev
noncomputable section

namespace T
variable {α : Type}
def ofListO : Nat → List (Option α) → T α → T α
  | _, [], t => t
  | i, x :: l, t => ofListO (i + 1) l (match x with | some x => t.set i (some x) | none => t)

theorem get_ofListO (l : List (Option α)) : ∀ (i : Nat) (t : T α) (j : Nat) (x : α), (ofListO i l t).get j = some x → l[j - i]? = some (some x) ∧ i ≤ j ∨ t.get j = some x := by
  induction l with
  | nil => intro i t j x h; exact .inr h
  | cons y l ih =>
    intro i t j x h
    rcases ih _ _ _ _ h with ⟨h1, h2⟩ | h1
    · refine .inl ⟨?_, by omega⟩
      have : j - i = (j - (i + 1)) + 1 := by omega
      rw [this]; simpa using h1
    · cases y with
      | none => exact .inr h1
      | some y =>
        simp only [get_set] at h1
        split at h1
        · rename_i hj; subst hj; exact .inl ⟨by simpa using h1, Nat.le_refl _⟩
        · exact .inr h1
end T

def tkOf (P : Program) : TypeDesc → TK
  | .bool => .bool
  | .int k => .int k
  | .string => .str
  | .pointer e => .ptr e
  | .slice e => .slice e
  | .array n e => .arr n e
  | .map k e => .map k e
  | .struct fs => .struct (fs.toList.map fun f => (f.offset, f.type, P.cellsOf f.type))
  | .func _ _ _ => .func
  | _ => .other

def aggD : TypeDesc → Bool
  | .struct _ | .array _ _ => true
  | _ => false

def isAggV : Value → Bool
  | .agg _ => true
  | _ => false

def plainT (P : Program) (t : TypeId) : TypeDesc → Bool
  | .struct fs => !P.stoodInHeld t && !P.eqGuardType P.depth t && fs.toList.all fun f => f.name != "_"
  | .array _ _ => !P.eqGuardType P.depth t
  | _ => false

def fieldsIn (P : Program) : TypeDesc → Bool
  | .struct fs => fs.toList.all fun f => (P.info? f.type).isSome
  | _ => true

def tinfo (P : Program) (t : TypeId) : Option TI :=
  match P.info? t, P.underlying t with
  | some i, some d => match i.zero with
    | some z => cond (isAggV z == aggD d && fieldsIn P d) (some ⟨tkOf P d, i.size, i.bytes, cellsOf z, aggD d, plainT P t d⟩) none
    | none => none
  | _, _ => none

/-- The tables are the program's. -/
structure Tied (P : Program) (X : Ctx) : Prop where
  tt : ∀ t i, X.tt.get t = some i → tinfo P t = some i
  ct : ∀ f fn, X.ct.get f = some fn → P.funcs[f]? = some fn ∧ (fn.name == "runtime.NumGoroutine") = false
  mixed : P.follows .mixedOrders = true

theorem tied_of {P : Program} {X : Ctx} {tl : List (Option TI)} (n : Nat) (h1 : X.tt = T.ofListO 0 tl .leaf) (h2 : (List.range n).map (tinfo P) = tl)
    (h3 : X.ct = T.ofList P.funcs.toList) (h4 : (P.funcs.toList.all fun fn => !(fn.name == "runtime.NumGoroutine")) = true) (h5 : P.follows .mixedOrders = true) : Tied P X := by
  refine ⟨?_, ?_, h5⟩
  · intro t i h
    rw [h1] at h
    rcases T.get_ofListO _ _ _ _ _ h with ⟨h, -⟩ | h
    · rw [← h2, Nat.sub_zero, List.getElem?_map] at h
      by_cases ht : t < n
      · rw [List.getElem?_range ht] at h; simpa using h
      · rw [List.getElem?_eq_none (by simpa using ht)] at h; simp at h
    · simp at h
  · intro f fn h
    rw [h3, T.get_ofList] at h
    refine ⟨by simpa using h, ?_⟩
    have := List.all_eq_true.1 h4 fn (List.mem_of_getElem? h)
    simpa using this

/-- What an operation has to do with memory: nothing; it reads; it makes; it does more. -/
inductive Cls where
  | p | r | a | w

def cls (tt : T TI) : Op → Cls
  | .move _ | .assign _ | .pick .. | .build .. | .nilCheck _ | .binOp .. | .unOp .. | .makeFunc .. | .slice .. | .fieldAddr .. | .field .. | .indexAddr .. | .index .. | .extract .. => .p
  | .load .. | .lookup .. => .r
  | .alloc _ | .box .. | .buildSlice .. | .makeMap .. | .makeSlice .. => .a
  | .convert _ d _ => match tt.get d with
    | some i => match i.k with
      | .int _ => .p
      | .str => .r
      | _ => .w
    | none => .w
  | .call c => match c.callee with
    | .builtin .len => .r
    | .builtin .min => .p
    | .builtin .max => .p
    | _ => .w
  | _ => .w

/-- What comes ahead of an operation, as a number's bits. -/
def maskOf (ms : List Nat) (o : Oper) : Nat := o.after.toList.foldl (fun s e => if Region.binds .any e then s ||| 2 ^ e.on ||| ms.getD e.on 0 else s) 0

def masks : List Oper → List Nat → List Nat
  | [], ms => ms
  | o :: os, ms => masks os (ms ++ [maskOf ms o])

/-- May two operations of which neither comes ahead of the other (the first one is written first) be in either order? -/
def freePair (tt : T TI) (ops : Array Oper) (x y : Oper) : Bool :=
  x.apart ops y && (match cls tt x.op, cls tt y.op with
    | .p, _ => true
    | _, .p => true
    | .a, .w => false
    | .w, .w => false
    | _, _ => true)

def freeAt (tt : T TI) (ops : Array Oper) (ms : List Nat) (j : Nat) (y : Oper) : List Oper → Nat → Bool
  | [], _ => true
  | x :: os, i => (Nat.ble j i || (ms.getD j 0).testBit i || freePair tt ops x y) && freeAt tt ops ms j y os (i + 1)

def backward (o : Oper) (i : Nat) : Bool := o.after.toList.all fun e => !Region.binds .any e || Nat.blt e.on i

def freeFrom (tt : T TI) (ops : Array Oper) (ms : List Nat) : List Oper → Nat → Bool
  | [], _ => true
  | y :: os, j => freeAt tt ops ms j y ops.toList 0 && backward y j && freeFrom tt ops ms os (j + 1)

/-- At which places what reads at place i is to be asked again: behind each operation that may write and be ahead of it or behind it; and ahead of the first one that may be behind it. -/
def asksAt (tt : T TI) (ms : List Nat) (i : Nat) : List Oper → Nat → Bool → List (Nat × Nat)
  | [], _, _ => []
  | y :: os, j, first =>
    match cls tt y.op with
    | .w => cond (Nat.blt j i)
      (cond ((ms.getD i 0).testBit j) (asksAt tt ms i os (j + 1) first) (cond first ((i, j) :: (i, j + 1) :: asksAt tt ms i os (j + 1) false) ((i, j + 1) :: asksAt tt ms i os (j + 1) false)))
      (cond (Nat.beq i j || (ms.getD j 0).testBit i) (asksAt tt ms i os (j + 1) first) ((i, j + 1) :: asksAt tt ms i os (j + 1) first))
    | .a => cond (Nat.blt j i && !(ms.getD i 0).testBit j && first) ((i, j) :: asksAt tt ms i os (j + 1) false) (asksAt tt ms i os (j + 1) first)
    | _ => asksAt tt ms i os (j + 1) first

def asks (tt : T TI) (all : List Oper) (ms : List Nat) : List Oper → Nat → List (Nat × Nat)
  | [], _ => []
  | o :: os, i => match cls tt o.op with
    | .r => asksAt tt ms i all 0 true ++ asks tt all ms os (i + 1)
    | _ => asks tt all ms os (i + 1)

/-- What is to be asked of a region that draws its order; none: it is not of a kind that is gone through. -/
def plan (tt : T TI) (os : List Oper) : Option (List (Nat × Nat)) :=
  cond (freeFrom tt os.toArray (masks os []) os 0) (some (asks tt os (masks os []) os 0)) none

def veq : Nat → Value → Value → Bool
  | _, .bool a, .bool b => a == b
  | _, .int k a, .int l b => decide (k = l) && decide (a = b)
  | _, .string a, .string b => a.data.toList == b.data.toList
  | _, .pointer a, .pointer b => decide (a = b)
  | _, .slice a l c, .slice b k d => decide (a = b) && Nat.beq l k && Nat.beq c d
  | _, .map a, .map b => decide (a = b)
  | _, .nilFunc, .nilFunc => true
  | _, .nilIface, .nilIface => true
  | n + 1, .agg a, .agg b => veqL (veq n) a.toList b.toList
  | n + 1, .tuple a, .tuple b => veqL (veq n) a.toList b.toList
  | _, _, _ => false
where
  veqL (eq : Value → Value → Bool) : List Value → List Value → Bool
    | [], [] => true
    | x :: l, y :: k => eq x y && veqL eq l k
    | _, _ => false

def runS (X : Ctx) (call : Call) (all : List Oper) : List Oper → Frm → Heap → Option (List (Frm × Heap))
  | [], F, H => some [(F, H)]
  | o :: os, F, H => match run1 X call all o F H with
    | some (F', H') => match runS X call all os F' H' with
      | some l => some ((F, H) :: l)
      | none => none
    | none => none

def asked (X : Ctx) (call : Call) (os : List Oper) (st : List (Frm × Heap)) (p : Nat × Nat) : Bool :=
  match getN os p.1, getN st p.1, getN st p.2, getN st (p.1 + 1) with
  | some o, some (Fi, _), some (_, Hp), some (F1, _) => match run1 X call os o Fi Hp with
    | some (F', _) => match o.dst with
      | some d => veq 3 ((F'.t.get d).getD undef) ((F1.t.get d).getD undef)
      | none => true
    | none => false
  | _, _, _, _ => false

/-- Regions that draw their order: as they are written, where that makes no difference. -/
def drawn (X : Ctx) (call : Call) (os : List Oper) (F : Frm) (H : Heap) : Option (Frm × Heap) :=
  match plan X.tt os with
  | none => none
  | some [] => runL X call os os F H
  | some ps => match runS X call os os F H with
    | some st => cond (ps.all (asked X call os st)) (getN st os.length) none
    | none => none

def ev (X : Ctx) (n : Nat) : Code → Frm → Heap → Option Out :=
  Nat.rec (motive := fun _ => Code → Frm → Heap → Option Out) (fun _ _ _ => none) (fun _ go => codeStep X go (drawn X)) n

theorem ev_zero (X : Ctx) (c : Code) (F : Frm) (H : Heap) : ev X 0 c F H = none := rfl
theorem ev_succ (X : Ctx) (n : Nat) (c : Code) (F : Frm) (H : Heap) : ev X (n + 1) c F H = codeStep X (ev X n) (drawn X) c F H := rfl

def callN (X : Ctx) (n : Nat) : Call := callOf X (ev X n)

end
end Ev
end Go.Proofs.Ytglkgmomnbdkoaa
