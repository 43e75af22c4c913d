/- Definitions of a deterministic evaluator over the model's code: heaps as tries, frames as tries, operations on abstract values. Nothing is proved of the program here. -/
import Derived.Orders
namespace Go.Proofs.Ytglkgmomnbdkoaa
namespace Ev
noncomputable section

/-- A trie keyed by numbers. -/
inductive T (α : Type) where
  | leaf
  | node (l : T α) (v : Option α) (r : T α)

namespace T
variable {α : Type}

/- Typed with recursors: the kernel runs them. -/
def get (t : T α) : Nat → Option α :=
  @T.rec α (fun _ => Nat → Option α) (fun _ => none)
    (fun _ v _ gl gr k => @Bool.rec (fun _ => Option α) (@Bool.rec (fun _ => Option α) (gr (Nat.sub (Nat.div k 2) 1)) (gl (Nat.div k 2)) (Nat.beq (Nat.mod k 2) 1)) v (Nat.beq k 0)) t

theorem get_leaf (k : Nat) : (T.leaf : T α).get k = none := rfl
theorem get_node (l : T α) (v : Option α) (r : T α) (k : Nat) : (T.node l v r).get k = cond (Nat.beq k 0) v (cond (Nat.beq (k % 2) 1) (l.get (k / 2)) (r.get (k / 2 - 1))) := by
  show @Bool.rec (fun _ => Option α) (@Bool.rec (fun _ => Option α) (r.get (k / 2 - 1)) (l.get (k / 2)) (Nat.beq (k % 2) 1)) v (Nat.beq k 0) = _
  cases Nat.beq k 0 <;> cases Nat.beq (k % 2) 1 <;> rfl

def setF (n : Nat) : T α → Nat → Option α → T α :=
  @Nat.rec (fun _ => T α → Nat → Option α → T α) (fun t _ _ => t)
    (fun _ s t k x => @T.rec α (fun _ => T α)
      (@Bool.rec (fun _ => T α) (@Bool.rec (fun _ => T α) (.node .leaf none (s .leaf (Nat.sub (Nat.div k 2) 1) x)) (.node (s .leaf (Nat.div k 2) x) none .leaf) (Nat.beq (Nat.mod k 2) 1)) (.node .leaf x .leaf) (Nat.beq k 0))
      (fun l v r _ _ => @Bool.rec (fun _ => T α) (@Bool.rec (fun _ => T α) (.node l v (s r (Nat.sub (Nat.div k 2) 1) x)) (.node (s l (Nat.div k 2) x) v r) (Nat.beq (Nat.mod k 2) 1)) (.node l x r) (Nat.beq k 0)) t) n

theorem setF_leaf (n k : Nat) (x : Option α) : setF (n + 1) .leaf k x = cond (Nat.beq k 0) (.node .leaf x .leaf) (cond (Nat.beq (k % 2) 1) (.node (setF n .leaf (k / 2) x) none .leaf) (.node .leaf none (setF n .leaf (k / 2 - 1) x))) := by
  show @Bool.rec (fun _ => T α) (@Bool.rec (fun _ => T α) (.node .leaf none (setF n .leaf (k / 2 - 1) x)) (.node (setF n .leaf (k / 2) x) none .leaf) (Nat.beq (k % 2) 1)) (.node .leaf x .leaf) (Nat.beq k 0) = _
  cases Nat.beq k 0 <;> cases Nat.beq (k % 2) 1 <;> rfl

theorem setF_node (n k : Nat) (l : T α) (v : Option α) (r : T α) (x : Option α) : setF (n + 1) (.node l v r) k x = cond (Nat.beq k 0) (.node l x r) (cond (Nat.beq (k % 2) 1) (.node (setF n l (k / 2) x) v r) (.node l v (setF n r (k / 2 - 1) x))) := by
  show @Bool.rec (fun _ => T α) (@Bool.rec (fun _ => T α) (.node l v (setF n r (k / 2 - 1) x)) (.node (setF n l (k / 2) x) v r) (Nat.beq (k % 2) 1)) (.node l x r) (Nat.beq k 0) = _
  cases Nat.beq k 0 <;> cases Nat.beq (k % 2) 1 <;> rfl

def set (t : T α) (k : Nat) (x : Option α) : T α := setF (k + 1) t k x

theorem get_setF (n : Nat) : ∀ (t : T α) (k : Nat) (x : Option α) (j : Nat), k < n → (setF n t k x).get j = if j = k then x else t.get j := by
  induction n with
  | zero => intro t k x j h; omega
  | succ n ih =>
    intro t k x j h
    have e0 : ∀ m : Nat, Nat.beq m 0 = decide (m = 0) := fun m => by cases m <;> rfl
    have e1 : ∀ m : Nat, Nat.beq m 1 = decide (m = 1) := fun m => by
      match m with
      | 0 => rfl
      | 1 => rfl
      | m + 2 => rfl
    cases t with
    | leaf =>
      by_cases hk : k = 0
      · subst hk
        by_cases hj : j = 0 <;> simp [setF_leaf, get_leaf, get_node, e0, hj]
      · by_cases ho : k % 2 = 1
        · have := ih .leaf (k / 2) x (j / 2) (by omega)
          by_cases hj : j = 0
          · subst hj; simp [setF_leaf, get_leaf, get_node, e0, e1, hk, ho, Ne.symm hk]
          · by_cases hjo : j % 2 = 1
            · simp only [setF_leaf, get_leaf, get_node, e0, e1, hk, ho, hj, hjo, decide_true, decide_false, cond_true, cond_false, this]
              have : (j / 2 = k / 2) = (j = k) := by apply propext; omega
              simp [this]
            · have : j ≠ k := by omega
              simp [setF_leaf, get_leaf, get_node, e0, e1, hk, ho, hj, hjo, this]
        · have := ih .leaf (k / 2 - 1) x (j / 2 - 1) (by omega)
          by_cases hj : j = 0
          · subst hj; simp [setF_leaf, get_leaf, get_node, e0, e1, hk, ho, Ne.symm hk]
          · by_cases hjo : j % 2 = 1
            · have : j ≠ k := by omega
              simp [setF_leaf, get_leaf, get_node, e0, e1, hk, ho, hj, hjo, this]
            · simp only [setF_leaf, get_leaf, get_node, e0, e1, hk, ho, hj, hjo, decide_false, cond_false, this]
              have : (j / 2 - 1 = k / 2 - 1) = (j = k) := by apply propext; omega
              simp [this]
    | node l v r =>
      by_cases hk : k = 0
      · subst hk
        by_cases hj : j = 0 <;> simp [setF_node, get_node, e0, hj]
      · by_cases ho : k % 2 = 1
        · have := ih l (k / 2) x (j / 2) (by omega)
          by_cases hj : j = 0
          · subst hj; simp [setF_node, get_node, e0, e1, hk, ho, Ne.symm hk]
          · by_cases hjo : j % 2 = 1
            · simp only [setF_node, get_node, e0, e1, hk, ho, hj, hjo, decide_true, decide_false, cond_true, cond_false, this]
              have : (j / 2 = k / 2) = (j = k) := by apply propext; omega
              simp [this]
            · have : j ≠ k := by omega
              simp [setF_node, get_node, e0, e1, hk, ho, hj, hjo, this]
        · have := ih r (k / 2 - 1) x (j / 2 - 1) (by omega)
          by_cases hj : j = 0
          · subst hj; simp [setF_node, get_node, e0, e1, hk, ho, Ne.symm hk]
          · by_cases hjo : j % 2 = 1
            · have : j ≠ k := by omega
              simp [setF_node, get_node, e0, e1, hk, ho, hj, hjo, this]
            · simp only [setF_node, get_node, e0, e1, hk, ho, hj, hjo, decide_false, cond_false, this]
              have : (j / 2 - 1 = k / 2 - 1) = (j = k) := by apply propext; omega
              simp [this]

@[simp] theorem get_set (t : T α) (k : Nat) (x : Option α) (j : Nat) : (t.set k x).get j = if j = k then x else t.get j :=
  get_setF (k + 1) t k x j (by omega)
attribute [simp] get_leaf

def ofListFrom : Nat → List α → T α → T α
  | _, [], t => t
  | i, x :: l, t => ofListFrom (i + 1) l (t.set i (some x))

theorem get_ofListFrom (l : List α) : ∀ (i : Nat) (t : T α) (j : Nat), (ofListFrom i l t).get j = if i ≤ j ∧ j < i + l.length then l[j - i]? else t.get j := by
  induction l with
  | nil => intro i t j; simp [ofListFrom]; omega
  | cons x l ih =>
    intro i t j
    simp only [ofListFrom, ih, get_set, List.length_cons]
    by_cases h1 : j = i
    · subst h1; simp; omega
    · by_cases h2 : i + 1 ≤ j ∧ j < i + 1 + l.length
      · rw [if_pos h2, if_pos (by omega)]
        have : j - i = (j - (i + 1)) + 1 := by omega
        rw [this, List.getElem?_cons_succ]
      · rw [if_neg h2, if_neg h1, if_neg (by omega)]

def ofList (l : List α) : T α := ofListFrom 0 l .leaf

@[simp] theorem get_ofList (l : List α) (j : Nat) : (ofList l).get j = l[j]? := by
  simp only [ofList, get_ofListFrom, Nat.zero_le, true_and, Nat.zero_add, Nat.sub_zero, get_leaf]
  split
  · rfl
  · rename_i h; rw [List.getElem?_eq_none (by omega)]
end T

/-- A capacity from this number on is not known: 'unk + cells of an element'. -/
def unk : Nat := 18446744073709551616

/-- A block of the abstract heap. -/
inductive Blk where
  | cells (l : List Value) (e : TypeId)
  | map (es : List MapEntry) (clock : Nat)

structure Heap where
  tr : T Blk
  next : Nat

def Heap.get (H : Heap) (b : Nat) : Option Blk := H.tr.get b
def Heap.set (H : Heap) (b : Nat) (x : Blk) : Heap := ⟨H.tr.set b (some x), H.next⟩
def Heap.kill (H : Heap) (b : Nat) : Heap := ⟨H.tr.set b none, H.next⟩
def Heap.alloc (H : Heap) (x : Blk) : Heap := ⟨H.tr.set H.next (some x), H.next + 1⟩

/-- What a type's underlying type is, as far as the evaluator looks at it. -/
inductive TK where
  | bool
  | int (k : IntKind)
  | str
  | ptr (e : TypeId)
  | slice (e : TypeId)
  | arr (n : Nat) (e : TypeId)
  | map (k e : TypeId)
  | struct (fs : List (Nat × TypeId × Nat))
  | func
  | other

structure TI where
  k : TK
  size : Nat
  bytes : Nat
  zero : List Value
  agg : Bool
  plain : Bool

/-- The cells of a value. -/
def cellsOf : Value → List Value
  | .agg cs => cs.toList
  | v => [v]

def one : Value → Bool
  | .agg _ | .tuple _ => false
  | _ => true

structure Frm where
  t : T Value
  n : Nat

def Frm.eval (F : Frm) : Operand → Value
  | .tmp t => (F.t.get t).getD undef
  | .const v => v
  | .global g => .pointer (some ⟨g, 0, some 1⟩)
  | .func f => .func (.func f) #[] #[]

def Frm.put (F : Frm) : Option Tmp → Value → Option Frm
  | none, _ => some F
  | some d, v => match F with
    | ⟨t, n⟩ => cond (Nat.blt d n) (some ⟨t.set d (some v), n⟩) none

theorem Frm.put_none (F : Frm) (v : Value) : F.put none v = some F := rfl
theorem Frm.put_some (F : Frm) (d : Tmp) (v : Value) : F.put (some d) v = cond (Nat.blt d F.n) (some ⟨F.t.set d (some v), F.n⟩) none := rfl

/-- What a run stands in: types, functions, cells outside. -/
structure Ctx where
  tt : T TI
  ct : T Func
  ext : Nat → Nat → Option Value
  spec : FuncId → Option (List Value → Heap → Option (Value × Heap))

def getN {α : Type} : List α → Nat → Option α
  | [], _ => none
  | x :: l, n => match n with
    | 0 => some x
    | n + 1 => getN l n

/-- n elements from a place on, all there. -/
def takeN {α : Type} : Nat → List α → Option (List α)
  | 0, _ => some []
  | _ + 1, [] => none
  | n + 1, x :: l => match takeN n l with
    | some r => some (x :: r)
    | none => none

def dropN {α : Type} : Nat → List α → Option (List α)
  | 0, l => some l
  | _ + 1, [] => none
  | n + 1, _ :: l => dropN n l

def cutN {α : Type} (o n : Nat) (l : List α) : Option (List α) := (dropN o l).bind (takeN n)

def overlay {α : Type} : List α → List α → Option (List α)
  | l, [] => some l
  | [], _ :: _ => none
  | _ :: l, v :: vs => match overlay l vs with
    | some r => some (v :: r)
    | none => none

/-- Elements laid over others from a place on. -/
def splice {α : Type} : Nat → List α → List α → Option (List α)
  | 0, l, vs => overlay l vs
  | _ + 1, [], _ => none
  | o + 1, x :: l, vs => match splice o l vs with
    | some r => some (x :: r)
    | none => none

def extN (X : Ctx) (b : Nat) : Nat → Nat → Option (List Value)
  | _, 0 => some []
  | o, n + 1 => match X.ext b o, extN X b (o + 1) n with
    | some v, some r => some (v :: r)
    | _, _ => none

/-- The cells at an address. -/
def rdN (X : Ctx) (H : Heap) (a : Addr) (n : Nat) : Option (List Value) :=
  match a.spot with
  | none => match H.get a.block with
    | some (.cells l _) => cutN a.off n l
    | _ => none
  | some 0 => extN X a.block a.off n
  | some _ => none

def rd1 (X : Ctx) (H : Heap) (a : Addr) : Option Value :=
  match a.spot with
  | none => match H.get a.block with
    | some (.cells l _) => getN l a.off
    | _ => none
  | some 0 => X.ext a.block a.off
  | some _ => none

def wrN (H : Heap) (a : Addr) (vs : List Value) : Option Heap :=
  match a.spot with
  | none => match H.get a.block with
    | some (.cells l e) => match cond (vs.all one) (splice a.off l vs) none with
      | some l' => some (H.set a.block (.cells l' e))
      | none => none
    | _ => none
  | some _ => none

def addA (a : Addr) (n : Nat) : Addr := ⟨a.block, a.off + n, a.spot⟩

def load (X : Ctx) (H : Heap) (t : TypeId) : Value → Option Value
  | .pointer (some a) => match X.tt.get t with
    | some i => cond i.agg (match rdN X H a i.size with | some l => some (.agg ⟨l⟩) | none => none) (rd1 X H a)
    | none => none
  | _ => none

def store (X : Ctx) (H : Heap) (t : TypeId) (a v : Value) : Option Heap :=
  match a with
  | .pointer (some a) => match X.tt.get t with
    | some i => cond (Nat.beq (cellsOf v).length i.size) (wrN H a (cellsOf v)) none
    | none => none
  | _ => none

def newCells (H : Heap) (t : TypeId) (cells : List Value) : Value × Heap :=
  (.pointer (some ⟨H.next, 0, none⟩), H.alloc (.cells cells t))

def fillL (place : Nat → Option (Nat × Nat)) : List Value → List (Nat × Value) → Option (List Value)
  | cells, [] => some cells
  | cells, (i, v) :: rest => match place i with
    | none => none
    | some (off, size) => cond (Nat.beq (cellsOf v).length size)
      (match splice off cells (cellsOf v) with
        | some c => fillL place c rest
        | none => none) none

def build (X : Ctx) (t : TypeId) (parts : List (Nat × Value)) : Option Value :=
  match X.tt.get t with
  | some i => match i.k with
    | .struct fs => match fillL (fun j => match getN fs j with | some (o, _, s) => some (o, s) | none => none) i.zero parts with
      | some c => some (.agg ⟨c⟩)
      | none => none
    | .arr _ e => match X.tt.get e with
      | some ie => match fillL (fun j => some (j * ie.size, ie.size)) i.zero parts with
        | some c => some (.agg ⟨c⟩)
        | none => none
      | none => none
    | _ => none
  | none => none

def repl {α : Type} (l : List α) : Nat → List α
  | 0 => []
  | n + 1 => l ++ repl l n

def buildSlice (X : Ctx) (H : Heap) (t : TypeId) (len : Nat) (parts : List (Nat × Value)) : Option (Value × Heap) :=
  match X.tt.get t with
  | some i => match i.k with
    | .slice e => match X.tt.get e with
      | some ie => cond (Nat.ble (len * ie.size) 16777216 && Nat.beq ie.zero.length ie.size && Nat.blt 0 ie.size)
        (match fillL (fun j => some (j * ie.size, ie.size)) (repl ie.zero len) parts with
          | some c => some (.slice (some ⟨H.next, 0, none⟩) len len, H.alloc (.cells c e))
          | none => none) none
      | none => none
    | _ => none
  | none => none

def wrapF (k : IntKind) (n : Int) : Int :=
  match k with
  | .u8 => n % 256
  | .u16 => n % 65536
  | .u32 => n % 4294967296
  | .u64 => n % 18446744073709551616
  | .i8 => let m := n % 256; if m ≥ 128 then m - 256 else m
  | .i16 => let m := n % 65536; if m ≥ 32768 then m - 65536 else m
  | .i32 => let m := n % 4294967296; if m ≥ 2147483648 then m - 4294967296 else m
  | .i64 => let m := n % 18446744073709551616; if m ≥ 9223372036854775808 then m - 18446744073709551616 else m

def modF (k : IntKind) : Nat :=
  match k with
  | .u8 | .i8 => 256
  | .u16 | .i16 => 65536
  | .u32 | .i32 => 4294967296
  | .u64 | .i64 => 18446744073709551616

def natF (k : IntKind) (n : Int) : Nat := (n % (modF k : Int)).toNat

def bitsF (k : IntKind) : Nat :=
  match k with
  | .u8 | .i8 => 8
  | .u16 | .i16 => 16
  | .u32 | .i32 => 32
  | .u64 | .i64 => 64

def intOp (op : BinOp) (k : IntKind) (x y : Int) : Option Value :=
  match op with
  | .add => some (.int k (wrapF k (x + y)))
  | .sub => some (.int k (wrapF k (x - y)))
  | .mul => some (.int k (wrapF k (x * y)))
  | .quo => if y = 0 then none else some (.int k (wrapF k (x.tdiv y)))
  | .rem => if y = 0 then none else some (.int k (x.tmod y))
  | .and => some (.int k (wrapF k (Nat.land (natF k x) (natF k y) : Nat)))
  | .or => some (.int k (wrapF k (Nat.lor (natF k x) (natF k y) : Nat)))
  | .xor => some (.int k (wrapF k (Nat.xor (natF k x) (natF k y) : Nat)))
  | .andNot => some (.int k (wrapF k (Nat.land (natF k x) (modF k - 1 - natF k y) : Nat)))
  | .eql => some (.bool (x == y))
  | .neq => some (.bool (x != y))
  | .lss => some (.bool (x < y))
  | .leq => some (.bool (x ≤ y))
  | .gtr => some (.bool (x > y))
  | .geq => some (.bool (x ≥ y))
  | _ => none

def shiftOp (op : BinOp) (k : IntKind) (x y : Int) : Option Value :=
  if y < 0 then none else
  match op with
  | .shl => some (.int k (wrapF k (x * ((2 ^ (min y.toNat (bitsF k)) : Nat) : Int))))
  | .shr => some (.int k (x.fdiv ((2 ^ (min y.toNat (bitsF k)) : Nat) : Int)))
  | _ => none

def partOf (agg : Bool) (cs : List Value) (off size : Nat) : Option Value :=
  cond agg (match cutN off size cs with | some l => some (.agg ⟨l⟩) | none => none) (getN cs off)

/-- Are two values of a type equal? none: not to be told here. -/
def eqV (X : Ctx) : Nat → TypeId → Value → Value → Option Bool
  | 0, _, _, _ => none
  | d + 1, t, x, y => match X.tt.get t with
    | none => none
    | some i => match i.k, x, y with
      | .bool, .bool a, .bool b => some (a == b)
      | .int _, .int k a, .int k' b => if k = k' then some (a == b) else none
      | .str, .string a, .string b => some (a.data.toList == b.data.toList)
      | .ptr _, .pointer none, .pointer b => some b.isNone
      | .ptr _, .pointer _, .pointer none => some false
      | .slice _, .slice none _ _, .slice b _ _ => some b.isNone
      | .slice _, .slice _ _ _, .slice none _ _ => some false
      | .map _ _, .map none, .map b => some b.isNone
      | .map _ _, .map _, .map none => some false
      | .func, .nilFunc, .nilFunc => some true
      | .func, .nilFunc, .func _ _ _ => some false
      | .func, .func _ _ _, .nilFunc => some false
      | .struct fs, .agg xs, .agg ys => cond i.plain (eqFs (eqV X d) X xs.toList ys.toList fs) none
      | _, _, _ => none
where
  eqFs (eq : TypeId → Value → Value → Option Bool) (X : Ctx) (xs ys : List Value) : List (Nat × TypeId × Nat) → Option Bool
    | [] => some true
    | (o, t, s) :: fs => match X.tt.get t with
      | none => none
      | some it => match partOf it.agg xs o s, partOf it.agg ys o s with
        | some a, some b => match eq t a b with
          | some true => eqFs eq X xs ys fs
          | r => r
        | _, _ => none

def strOp (op : BinOp) (a b : ByteArray) : Option Value :=
  match op with
  | .eql => some (.bool (a.data.toList == b.data.toList))
  | .neq => some (.bool (!(a.data.toList == b.data.toList)))
  | _ => none

def bin (X : Ctx) (op : BinOp) (t : TypeId) (x y : Value) : Option Value :=
  match x, y with
  | .int k a, .int k' b => match op with
    | .shl => shiftOp .shl k a b
    | .shr => shiftOp .shr k a b
    | op => if k = k' then intOp op k a b else none
  | .string a, .string b => strOp op a b
  | x, y => match op with
    | .eql => match eqV X 100 t x y with
      | some b => some (.bool b)
      | none => none
    | .neq => match eqV X 100 t x y with
      | some b => some (.bool (!b))
      | none => none
    | _ => none

def un (op : UnOp) (x : Value) : Option Value :=
  match op, x with
  | .neg, .int k n => some (.int k (wrapF k (0 - n)))
  | .xor, .int k n => some (.int k (wrapF k (Nat.xor (modF k - 1) (natF k n) : Nat)))
  | .not, .bool b => some (.bool (!b))
  | _, _ => none

def bytesOf : List Value → Option (List UInt8)
  | [] => some []
  | .int .u8 n :: l => match bytesOf l with
    | some r => some (UInt8.ofNat n.toNat :: r)
    | none => none
  | _ :: _ => none

/-- Slices' own elements as cells. -/
def cellsAt (X : Ctx) (H : Heap) (n : Nat) : Value → Option (List Value)
  | .slice (some a) _ _ => cond (Nat.beq n 0) (some []) (rdN X H a n)
  | .slice none _ _ => cond (Nat.beq n 0) (some []) none
  | _ => none

def conv (X : Ctx) (H : Heap) (src dst : TypeId) (x : Value) : Option (Value × Heap) :=
  match X.tt.get src, X.tt.get dst with
  | some is, some i => match is.k, i.k, x with
    | _, .int k, .int _ n => some (.int k (wrapF k n), H)
    | .str, .str, .string s => some (.string s, H)
    | .str, .slice e, .string s => match X.tt.get e with
      | some ie => match ie.k with
        | .int .u8 => some (.slice (some ⟨H.next, 0, none⟩) s.size (unk + 1), H.alloc (.cells (s.data.toList.map fun b => .int .u8 (b.toNat : Int)) e))
        | _ => none
      | none => none
    | .slice e, .str, .slice a l c => match X.tt.get e with
      | some ie => match ie.k with
        | .int .u8 => match (cellsAt X H l (.slice a l c)).bind bytesOf with
          | some bs => some (.string ⟨⟨bs⟩⟩, H)
          | none => none
        | _ => none
      | none => none
    | .slice e, .slice _, .slice (some a) l c => cond (Nat.beq src dst) (match X.tt.get e with
      | some ie => match ie.k with
        | .int .u8 => match a.spot, H.get a.block with
          | none, some (.cells _ _) => some (.slice (some a) l c, H)
          | _, _ => none
        | _ => none
      | none => none) none
    | _, _, _ => none
  | _, _ => none

def fieldAddr (X : Ctx) (t : TypeId) (x : Value) (f : Nat) : Option Value :=
  match x, X.tt.get t with
  | .pointer (some a), some i => match i.k with
    | .struct fs => match getN fs f with
      | some (o, _, s) => cond (Nat.beq s 0) none (some (.pointer (some (addA a o))))
      | none => none
    | _ => none
  | _, _ => none

def field (X : Ctx) (t : TypeId) (x : Value) (f : Nat) : Option Value :=
  match x, X.tt.get t with
  | .agg cs, some i => match i.k with
    | .struct fs => match getN fs f with
      | some (o, ft, s) => match X.tt.get ft with
        | some it => partOf it.agg cs.toList o s
        | none => none
      | none => none
    | _ => none
  | _, _ => none

def indexAddr (X : Ctx) (t : TypeId) (x i : Value) : Option Value :=
  match i, X.tt.get t with
  | .int _ n, some it => match it.k, x with
    | .arr len e, .pointer (some a) => match X.tt.get e with
      | some ie => if 0 ≤ n ∧ n < len then some (.pointer (some (addA a (n.toNat * ie.size)))) else none
      | none => none
    | .slice e, .slice (some a) len _ => match X.tt.get e with
      | some ie => if 0 ≤ n ∧ n < len then some (.pointer (some (addA a (n.toNat * ie.size)))) else none
      | none => none
    | _, _ => none
  | _, _ => none

def index (X : Ctx) (t : TypeId) (x i : Value) : Option Value :=
  match i, X.tt.get t with
  | .int _ n, some it => match it.k, x with
    | .arr len e, .agg cs => match X.tt.get e with
      | some ie => if 0 ≤ n ∧ n < len then partOf ie.agg cs.toList (n.toNat * ie.size) ie.size else none
      | none => none
    | .str, .string s => if 0 ≤ n then match getN s.data.toList n.toNat with
      | some b => some (.int .u8 (b.toNat : Int))
      | none => none else none
    | _, _ => none
  | _, _ => none

/-- A bound of a slice expression, at most y. -/
def bound (y : Nat) : Option Value → Nat → Option Nat
  | none, d => some d
  | some (.int _ n), _ => if 0 ≤ n ∧ n ≤ y then some n.toNat else none
  | some _, _ => none

def spotOk (a : Addr) : Bool :=
  match a.spot with
  | none => true
  | some 0 => true
  | some _ => false

def moved (a : Addr) (m l s : Nat) : Addr := cond (Nat.beq m l) a (addA a (l * s))

def slice (X : Ctx) (t : TypeId) (x : Value) (lo hi mx : Option Value) : Option Value :=
  match X.tt.get t with
  | none => none
  | some it => match it.k, x with
    | .arr n e, .pointer (some a) => match X.tt.get e, mx with
      | some ie, none => cond (Nat.blt n unk && spotOk a) (match bound n hi n with
        | none => none
        | some h => match bound h lo 0 with
          | none => none
          | some l => some (.slice (some (moved a n l ie.size)) (h - l) (n - l))) none
      | _, _ => none
    | .str, .string s => match mx with
      | some _ => none
      | none => match bound s.size hi s.size with
        | none => none
        | some h => match bound h lo 0 with
          | none => none
          | some l => some (.string ⟨⟨(s.data.toList.drop l).take (h - l)⟩⟩)
    | .slice e, .slice base len cap => match X.tt.get e with
      | none => none
      | some ie => match base with
        | none => match mx with
          | some _ => none
          | none => match bound cap hi len with
            | none => none
            | some h => match bound h lo 0 with
              | none => none
              | some l => some (.slice none (h - l) (cap - l))
        | some a => cond (Nat.ble unk cap)
          (cond (Nat.beq cap (unk + ie.size))
            (match mx with
            | some m => match hi with
              | none => none
              | some hi => match bound len (some m) 0 with
                | none => none
                | some m => match bound m (some hi) 0 with
                  | none => none
                  | some h => match bound h lo 0 with
                    | none => none
                    | some l => cond (Nat.blt m unk) (some (.slice (some (moved a m l ie.size)) (h - l) (m - l))) none
            | none => match bound len hi len with
              | none => none
              | some h => match bound h lo 0 with
                | none => none
                | some l => some (.slice (some (addA a (l * ie.size))) (h - l) cap)) none)
          (match mx, hi with
          | some _, none => none
          | _, _ => match bound cap mx cap with
            | none => none
            | some m => match bound m hi len with
              | none => none
              | some h => match bound h lo 0 with
                | none => none
                | some l => some (.slice (some (moved a m l ie.size)) (h - l) (m - l)))
    | _, _ => none

def keyFind (key : Value) : List MapEntry → Nat → Option (Option (Nat × Value))
  | [], _ => some none
  | e :: es, i => match key, e.key with
    | .int k a, .int k' b => if k = k' then (if a = b then some (some (i, e.val)) else keyFind key es (i + 1)) else none
    | _, _ => none

def intKey (X : Ctx) (kt : TypeId) : Value → Bool
  | .int _ _ => match X.tt.get kt with
    | some i => match i.k with
      | .int _ => true
      | _ => false
    | none => false
  | _ => false

def entries (H : Heap) : Value → Option (List MapEntry)
  | .map none => some []
  | .map (some r) => match H.get r with
    | some (.map es _) => some es
    | _ => none
  | _ => none

def tiVal (i : TI) : Option Value := cond i.agg (some (.agg ⟨i.zero⟩)) (getN i.zero 0)

def lookup (X : Ctx) (H : Heap) (t : TypeId) (m key : Value) (ok : Bool) : Option Value :=
  match X.tt.get t with
  | some i => match i.k with
    | .map kt et => cond (intKey X kt key) (match entries H m with
      | none => none
      | some es => match keyFind key es 0 with
        | none => none
        | some (some (_, v)) => some (cond ok (.tuple #[v, .bool true]) v)
        | some none => match (X.tt.get et).bind tiVal with
          | some z => some (cond ok (.tuple #[z, .bool false]) z)
          | none => none) none
    | _ => none
  | none => none

def setAt (es : List MapEntry) (i : Nat) (k v : Value) : List MapEntry :=
  match es, i with
  | [], _ => []
  | e :: es, 0 => { e with key := k, val := v } :: es
  | e :: es, i + 1 => e :: setAt es i k v

def mapUpdate (X : Ctx) (H : Heap) (t : TypeId) (m key v : Value) : Option Heap :=
  match X.tt.get t with
  | some i => match i.k with
    | .map kt _ => cond (intKey X kt key) (match m with
      | .map (some r) => match H.get r with
        | some (.map es clock) => match keyFind key es 0 with
          | none => none
          | some (some (j, _)) => some (H.set r (.map (setAt es j key v) clock))
          | some none => some (H.set r (.map (es ++ [{ key, val := v, born := clock }]) (clock + 1)))
        | _ => none
      | _ => none) none
    | _ => none
  | none => none

def delete (X : Ctx) (H : Heap) (t : TypeId) (m key : Value) : Option Heap :=
  match X.tt.get t with
  | some i => match i.k with
    | .map kt _ => cond (intKey X kt key) (match m with
      | .map (some r) => match H.get r with
        | some (.map es clock) => match keyFind key es 0 with
          | none => none
          | some (some (j, _)) => some (H.set r (.map (es.eraseIdx j) clock))
          | some none => some H
        | _ => none
      | _ => none) none
    | _ => none
  | none => none

def lenV (X : Ctx) (H : Heap) (t : TypeId) (x : Value) : Option Value :=
  match X.tt.get t with
  | some i => match i.k, x with
    | .str, .string s => some (.int .i64 (s.size : Nat))
    | .arr n _, _ => some (.int .i64 (n : Nat))
    | .slice _, .slice _ n _ => some (.int .i64 (n : Nat))
    | .map _ _, m => match entries H m with
      | some es => some (.int .i64 (es.length : Nat))
      | none => none
    | _, _ => none
  | none => none

def lenOf : Value → Option Nat
  | .slice _ n _ => some n
  | .string s => some s.size
  | _ => none

def srcCells (X : Ctx) (H : Heap) (size n : Nat) : Value → Option (List Value)
  | .string s => cond (Nat.beq size 1) (takeN n (s.data.toList.map fun b => .int .u8 (b.toNat : Int))) none
  | v => cellsAt X H (n * size) v

/-- Room for what grows: it may take at most 2^48 bytes. -/
def roomOk (need cap bytes : Nat) : Bool := Nat.ble ((cond (Nat.blt (2 * cap) need) need (2 * need)) * bytes) 281474976710656

/-- Appended to a slice whose room is not known: new memory, or its own. -/
def appendU (X : Ctx) (H : Heap) (e : TypeId) (ie : TI) (a : Addr) (s : Value) (sLen n : Nat) (new : List Value) : Option (Value × Heap) :=
  match a.spot with
  | some _ => none
  | none => cond (Nat.beq n 0) (some (s, H)) (match H.get a.block with
    | some (.cells _ _) => cond (roomOk (sLen + n) (sLen + n) ie.bytes && new.all one) (match cellsAt X H (sLen * ie.size) s with
      | none => none
      | some old => some (.slice (some ⟨H.next, 0, none⟩) (sLen + n) (unk + ie.size), (H.kill a.block).alloc (.cells (old ++ new) e))) none
    | _ => none)

/-- Appended to a slice whose room is known. -/
def appendK (X : Ctx) (H : Heap) (e : TypeId) (ie : TI) (base : Option Addr) (s : Value) (sLen sCap n : Nat) (new : List Value) : Option (Value × Heap) :=
  cond (Nat.ble (sLen + n) sCap)
    (match base with
    | none => some (.slice none (sLen + n) sCap, H)
    | some a => cond (Nat.beq n 0) (some (.slice base (sLen + n) sCap, H)) (match wrN H (addA a (sLen * ie.size)) new with
      | some H' => some (.slice base (sLen + n) sCap, H')
      | none => none))
    (cond (roomOk (sLen + n) sCap ie.bytes) (match cellsAt X H (sLen * ie.size) s with
      | none => none
      | some old => some (.slice (some ⟨H.next, 0, none⟩) (sLen + n) (unk + ie.size), H.alloc (.cells (old ++ new) e))) none)

def append (X : Ctx) (H : Heap) (st xt : TypeId) (s x : Value) : Option (Value × Heap) :=
  match X.tt.get st, X.tt.get xt, s with
  | some i, some ix, .slice base sLen sCap => match i.k, ix.k with
    | _, .int _ => none
    | .slice e, _ => match X.tt.get e, lenOf x with
      | some ie, some n =>
        cond (Nat.blt 0 ie.size && Nat.blt 0 ie.bytes && Nat.beq ie.zero.length ie.size)
        (match srcCells X H ie.size n x with
        | none => none
        | some new => cond (Nat.ble unk sCap)
          (cond (Nat.beq sCap (unk + ie.size)) (match base with
            | some a => appendU X H e ie a s sLen n new
            | none => none) none)
          (appendK X H e ie base s sLen sCap n new)) none
      | _, _ => none
    | _, _ => none
  | _, _, _ => none

def copy (X : Ctx) (H : Heap) (dt : TypeId) (d s : Value) : Option (Value × Heap) :=
  match X.tt.get dt, d with
  | some i, .slice base dLen _ => match i.k with
    | .slice e => match X.tt.get e, lenOf s with
      | some ie, some sl =>
        let n := Nat.min sl dLen
        match srcCells X H ie.size n s with
        | none => none
        | some cs => match base with
          | none => some (.int .i64 (n : Nat), H)
          | some a => cond (Nat.beq n 0) (some (.int .i64 (n : Nat), H)) (match wrN H a cs with
            | some H' => some (.int .i64 (n : Nat), H')
            | none => none)
      | _, _ => none
    | _ => none
  | _, _ => none

def makeSlice (X : Ctx) (H : Heap) (t : TypeId) (len cap : Value) : Option (Value × Heap) :=
  match X.tt.get t, len, cap with
  | some i, .int _ l, .int _ c => match i.k with
    | .slice e => match X.tt.get e with
      | some ie => if 0 ≤ l ∧ l ≤ c ∧ c < 9223372036854775808 ∧ (ie.bytes : Int) * c ≤ 281474976710656 ∧ 0 < ie.size ∧ ie.zero.length = ie.size then
          some (.slice (some ⟨H.next, 0, none⟩) l.toNat c.toNat, H.alloc (.cells (repl ie.zero c.toNat) e)) else none
      | none => none
    | _ => none
  | _, _, _ => none

def extract (x : Value) (i : Nat) : Option Value :=
  match x with
  | .tuple vs => getN vs.toList i
  | _ => none

def mm (mx : Bool) : Value → List Value → Option Value
  | v, [] => some v
  | .int k x, .int k' y :: l => if k = k' then mm mx (.int k (cond mx (if y > x then y else x) (if y < x then y else x))) l else none
  | _, _ => none

def nilCheck (x : Value) : Option Value :=
  match x with
  | .pointer (some a) => some (.pointer (some a))
  | .func (.func f) first captured => some (.func (.func f) first captured)
  | _ => none

def builtin (X : Ctx) (H : Heap) (b : Builtin) (ats : List TypeId) (args : List Value) : Option (Value × Heap) :=
  match b, ats, args with
  | .append, [st, xt], [s, x] => append X H st xt s x
  | .copy, dt :: _, [d, s] => copy X H dt d s
  | .len, t :: _, [x] => match lenV X H t x with | some v => some (v, H) | none => none
  | .cap, t :: _, [.slice _ _ c] => match X.tt.get t with
    | some i => match i.k with
      | .slice _ => cond (Nat.blt c unk) (some (.int .i64 (c : Nat), H)) none
      | _ => none
    | none => none
  | .delete, t :: _, [m, k] => match delete X H t m k with | some H' => some (.tuple #[], H') | none => none
  | .max, _, v :: l => match mm true v l with | some v => some (v, H) | none => none
  | .min, _, v :: l => match mm false v l with | some v => some (v, H) | none => none
  | _, _, _ => none

/-- An operation that calls no function: its value (undef, where it has none), and the heap behind it. -/
def op (X : Ctx) (F : Frm) (H : Heap) (o : Op) : Option (Value × Heap) :=
  let only (v : Option Value) : Option (Value × Heap) := match v with | some v => some (v, H) | none => none
  let unit (h : Option Heap) : Option (Value × Heap) := match h with | some h => some (undef, h) | none => none
  match o with
  | .move x | .assign x => some (F.eval x, H)
  | .pick c a b => match F.eval c with
    | .bool true => some (F.eval a, H)
    | .bool false => some (F.eval b, H)
    | _ => none
  | .alloc e => match X.tt.get e with
    | some i => cond (Nat.beq i.zero.length i.size) (some (newCells H e i.zero)) none
    | none => none
  | .box e x => some (newCells H e (cellsOf (F.eval x)))
  | .build t ps => only (build X t (ps.toList.map fun p => (p.1, F.eval p.2)))
  | .buildSlice t n ps => buildSlice X H t n (ps.toList.map fun p => (p.1, F.eval p.2))
  | .load t a => only (load X H t (F.eval a))
  | .store t a v => unit (store X H t (F.eval a) (F.eval v))
  | .nilCheck x => only (nilCheck (F.eval x))
  | .binOp b t x y _ => only (bin X b t (F.eval x) (F.eval y))
  | .unOp u _ x => only (un u (F.eval x))
  | .convert s d x => conv X H s d (F.eval x)
  | .makeFunc fn first captured => some (.func fn ⟨first.toList.map F.eval⟩ ⟨captured.toList.map F.eval⟩, H)
  | .makeMap t r => match r, X.tt.get t with
    | none, some _ => some (.map (some H.next), H.alloc (.map [] 0))
    | _, _ => none
  | .makeSlice t l c => makeSlice X H t (F.eval l) (F.eval c)
  | .slice t x lo hi mx => only (slice X t (F.eval x) (lo.map F.eval) (hi.map F.eval) (mx.map F.eval))
  | .fieldAddr t x f => only (fieldAddr X t (F.eval x) f)
  | .field t x f => only (field X t (F.eval x) f)
  | .indexAddr t x i => only (indexAddr X t (F.eval x) (F.eval i))
  | .index t x i => only (index X t (F.eval x) (F.eval i))
  | .lookup t m k ok => only (lookup X H t (F.eval m) (F.eval k) ok)
  | .mapUpdate t m k v => unit (mapUpdate X H t (F.eval m) (F.eval k) (F.eval v))
  | .extract x i => only (extract (F.eval x) i)
  | .call c => match c.callee with
    | .builtin b => builtin X H b c.argTypes.toList (c.args.toList.map F.eval)
    | _ => none
  | _ => none

/-- What an operation calls. -/
def callee (F : Frm) : Op → Option (FuncId × List Value)
  | .call c => match c.callee with
    | .value f => match F.eval f with
      | .func (.func g) first captured => some (g, first.toList ++ c.args.toList.map F.eval ++ captured.toList)
      | _ => none
    | _ => none
  | _ => none

abbrev Call := FuncId → List Value → Heap → Option (Value × Heap)

def step (X : Ctx) (call : Call) (F : Frm) (H : Heap) (o : Op) : Option (Value × Heap) :=
  match callee F o with
  | some (f, args) => call f args H
  | none => op X F H o

def wantedBy (F : Frm) (ops : List Oper) (o : Oper) : Bool :=
  match o.guard with
  | none => true
  | some (j, want) => match getN ops j with
    | some g => match g.dst with
      | some d => match F.t.get d with
        | some (.bool b) => b == want
        | _ => false
      | none => false
    | none => false

def run1 (X : Ctx) (call : Call) (all : List Oper) (o : Oper) (F : Frm) (H : Heap) : Option (Frm × Heap) :=
  cond (wantedBy F all o)
    (match step X call F H o.op with
    | some (v, H') => match F.put o.dst v with
      | some F' => some (F', H')
      | none => none
    | none => none)
    (match F.put o.dst undef with
    | some F' => some (F', H)
    | none => none)

def runL (X : Ctx) (call : Call) (all : List Oper) : List Oper → Frm → Heap → Option (Frm × Heap)
  | [], F, H => some (F, H)
  | o :: os, F, H => match run1 X call all o F H with
    | some (F', H') => runL X call all os F' H'
    | none => none

inductive Ex where
  | normal
  | exit (id : Nat)
  | ret

structure Out where
  e : Ex
  F : Frm
  H : Heap

def resV (X : Ctx) (F : Frm) (H : Heap) : ResultVar → Option Value
  | .tmp t => some ((F.t.get t).getD undef)
  | .cell a t => load X H t ((F.t.get a).getD undef)

def resL (X : Ctx) (F : Frm) (H : Heap) : List ResultVar → Option (List Value)
  | [] => some []
  | r :: rs => match resV X F H r, resL X F H rs with
    | some v, some l => some (v :: l)
    | _, _ => none

def result (X : Ctx) (rs : List ResultVar) (F : Frm) (H : Heap) : Option Value :=
  match resL X F H rs with
  | some [v] => some v
  | some l => some (.tuple ⟨l⟩)
  | none => none

def callOf (X : Ctx) (go : Code → Frm → Heap → Option Out) : Call := fun f args H =>
  match X.spec f with
  | some s => s args H
  | none => match X.ct.get f with
    | some fn => match fn.body with
      | some c => match go c ⟨T.ofList args, Nat.max fn.ntmps args.length⟩ H with
        | some ⟨.ret, F, H'⟩ => match result X fn.results.toList F H' with
          | some v => some (v, H')
          | none => none
        | some ⟨.normal, F, H'⟩ => match result X fn.results.toList F H' with
          | some v => some (v, H')
          | none => none
        | _ => none
      | none => none
    | none => none

def codeStep (X : Ctx) (go : Code → Frm → Heap → Option Out) (draw : (Call → List Oper → Frm → Heap → Option (Frm × Heap))) (c : Code) (F : Frm) (H : Heap) : Option Out :=
  match c with
  | .skip => some ⟨.normal, F, H⟩
  | .label _ => some ⟨.normal, F, H⟩
  | .ret => some ⟨.ret, F, H⟩
  | .exit id => some ⟨.exit id, F, H⟩
  | .seq a b => match go a F H with
    | some ⟨.normal, F', H'⟩ => go b F' H'
    | r => r
  | .cond x a b => match F.eval x with
    | .bool true => go a F H
    | .bool false => go b F H
    | _ => none
  | .block id b => match go b F H with
    | some ⟨.exit j, F', H'⟩ => cond (Nat.beq j id) (some ⟨.normal, F', H'⟩) (some ⟨.exit j, F', H'⟩)
    | r => r
  | .loop b => match go b F H with
    | some ⟨.normal, F', H'⟩ => go (.loop b) F' H'
    | r => r
  | .region _ ops false => match runL X (callOf X go) ops.toList ops.toList F H with
    | some (F', H') => some ⟨.normal, F', H'⟩
    | none => none
  | .region _ ops true => match draw (callOf X go) ops.toList F H with
    | some (F', H') => some ⟨.normal, F', H'⟩
    | none => none
  | _ => none

end
end Ev
end Go.Proofs.Ytglkgmomnbdkoaa
