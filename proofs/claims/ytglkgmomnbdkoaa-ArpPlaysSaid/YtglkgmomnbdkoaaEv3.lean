/- The relation between the evaluator's values and heaps and the model's, and its first laws. -/
import Derived.Test.YtglkgmomnbdkoaaEv2
import Derived.Laws.World
import Derived.Laws.Sem
namespace Go.Proofs.Ytglkgmomnbdkoaa
namespace Ev

/-- Where an abstract block lies: in which block, from which cell on, and how many cells that block has. -/
structure Loc where
  blk : Nat
  sh : Nat
  n : Nat

abbrev Mu := Nat → Option Loc

def Mu.le (m m' : Mu) : Prop := ∀ b L, m b = some L → m' b = some L
theorem Mu.le_refl (m : Mu) : m.le m := fun _ _ h => h
theorem Mu.le_trans {a b c : Mu} (h : a.le b) (h' : b.le c) : a.le c := fun x L hx => h' x L (h x L hx)

mutual
inductive VR (m : Mu) : Value → Value → Prop
  | bool (b : Bool) : VR m (.bool b) (.bool b)
  | int (k : IntKind) (n : Int) : VR m (.int k n) (.int k n)
  | float (k : FloatKind) (n : Nat) : VR m (.float k n) (.float k n)
  | complex (k : FloatKind) (x y : Nat) : VR m (.complex k x y) (.complex k x y)
  | string (s : ByteArray) : VR m (.string s) (.string s)
  | ptrNil : VR m (.pointer none) (.pointer none)
  | ptr {b : Nat} {L : Loc} (o o' : Nat) (h : m b = some L) (ho : o' = L.sh + o) : VR m (.pointer (some ⟨b, o, none⟩)) (.pointer (some ⟨L.blk, o', none⟩))
  | ptrX (b o : Nat) : VR m (.pointer (some ⟨b, o, some 0⟩)) (.pointer (some ⟨b, o, none⟩))
  | ptrG (b o : Nat) : VR m (.pointer (some ⟨b, o, some 1⟩)) (.pointer (some ⟨b, o, none⟩))
  | slNil (l c : Nat) : VR m (.slice none l c) (.slice none l c)
  | sl {b : Nat} {L : Loc} (o o' l c : Nat) (h : m b = some L) (ho : (c = 0 ∧ l = 0) ∨ o' = L.sh + o) (hc : c < unk) : VR m (.slice (some ⟨b, o, none⟩) l c) (.slice (some ⟨L.blk, o', none⟩) l c)
  | slU {b : Nat} {L : Loc} (o o' l c c' z : Nat) (h : m b = some L) (hc : c = unk + z) (ho : l = 0 ∨ o' = L.sh + o) (hl : l ≤ c') (hf : o' + c' * z ≤ L.n) : VR m (.slice (some ⟨b, o, none⟩) l c) (.slice (some ⟨L.blk, o', none⟩) l c')
  | slX (b o l c : Nat) (hc : c < unk) : VR m (.slice (some ⟨b, o, some 0⟩) l c) (.slice (some ⟨b, o, none⟩) l c)
  | slZ (b o : Nat) (a : Addr) : VR m (.slice (some ⟨b, o, some 0⟩) 0 0) (.slice (some a) 0 0)
  | mapNil : VR m (.map none) (.map none)
  | map {b : Nat} {L : Loc} (h : m b = some L) : VR m (.map (some b)) (.map (some L.blk))
  | chanNil : VR m (.chan none) (.chan none)
  | func (fn : Fn) {a a' c c' : Array Value} (h : VRs m a.toList a'.toList) (h' : VRs m c.toList c'.toList) : VR m (.func fn a c) (.func fn a' c')
  | nilFunc : VR m .nilFunc .nilFunc
  | nilIface : VR m .nilIface .nilIface
  | iface (t : TypeId) {v v' : Value} (h : VR m v v') : VR m (.iface t v) (.iface t v')
  | agg {a a' : Array Value} (h : VRs m a.toList a'.toList) : VR m (.agg a) (.agg a')
  | tuple {a a' : Array Value} (h : VRs m a.toList a'.toList) : VR m (.tuple a) (.tuple a')
inductive VRs (m : Mu) : List Value → List Value → Prop
  | nil : VRs m [] []
  | cons {v v' : Value} {l l' : List Value} (h : VR m v v') (h' : VRs m l l') : VRs m (v :: l) (v' :: l')
end

mutual
theorem VR.mono {m m' : Mu} (hm : m.le m') : ∀ {v v' : Value}, VR m v v' → VR m' v v'
  | _, _, .bool b => .bool b
  | _, _, .int k n => .int k n
  | _, _, .float k n => .float k n
  | _, _, .complex k x y => .complex k x y
  | _, _, .string s => .string s
  | _, _, .ptrNil => .ptrNil
  | _, _, .ptr o o' h ho => .ptr o o' (hm _ _ h) ho
  | _, _, .ptrX b o => .ptrX b o
  | _, _, .ptrG b o => .ptrG b o
  | _, _, .slNil l c => .slNil l c
  | _, _, .sl o o' l c h ho hc => .sl o o' l c (hm _ _ h) ho hc
  | _, _, .slU o o' l c c' z h hc ho hl hf => .slU o o' l c c' z (hm _ _ h) hc ho hl hf
  | _, _, .slX b o l c hc => .slX b o l c hc
  | _, _, .slZ b o a => .slZ b o a
  | _, _, .mapNil => .mapNil
  | _, _, .map h => .map (hm _ _ h)
  | _, _, .chanNil => .chanNil
  | _, _, .func fn h h' => .func fn (h.mono hm) (h'.mono hm)
  | _, _, .nilFunc => .nilFunc
  | _, _, .nilIface => .nilIface
  | _, _, .iface t h => .iface t (h.mono hm)
  | _, _, .agg h => .agg (h.mono hm)
  | _, _, .tuple h => .tuple (h.mono hm)
theorem VRs.mono {m m' : Mu} (hm : m.le m') : ∀ {l l' : List Value}, VRs m l l' → VRs m' l l'
  | _, _, .nil => .nil
  | _, _, .cons h h' => .cons (h.mono hm) (h'.mono hm)
end

section lists
variable {m : Mu}

theorem VRs.length : ∀ {l l' : List Value}, VRs m l l' → l.length = l'.length
  | _, _, .nil => rfl
  | _, _, .cons _ h => by simp [h.length]

theorem VRs.append {l l' k k' : List Value} (h : VRs m l l') (h' : VRs m k k') : VRs m (l ++ k) (l' ++ k') := by
  induction l generalizing l' with
  | nil => cases h; exact h'
  | cons x l ih => cases h with | cons hx hl => exact .cons hx (ih hl)

theorem getN_eq {α : Type} : ∀ (l : List α) (i : Nat), getN l i = l[i]?
  | [], i => by simp [getN]
  | x :: l, 0 => by simp [getN]
  | x :: l, i + 1 => by simp [getN, getN_eq l i]

theorem VRs.get {l l' : List Value} (h : VRs m l l') : ∀ {i : Nat} {v : Value}, l[i]? = some v → ∃ v', l'[i]? = some v' ∧ VR m v v' := by
  induction l generalizing l' with
  | nil => intro i v hv; simp at hv
  | cons x l ih =>
    cases h with
    | cons hx hl =>
      intro i v hv
      cases i with
      | zero => simp at hv; subst hv; exact ⟨_, by simp, hx⟩
      | succ i => simp at hv; obtain ⟨v', h1, h2⟩ := ih hl hv; exact ⟨v', by simpa using h1, h2⟩

theorem VRs.of_get {l l' : List Value} (hlen : l.length = l'.length) (h : ∀ (i : Nat) (v v' : Value), l[i]? = some v → l'[i]? = some v' → VR m v v') : VRs m l l' := by
  induction l generalizing l' with
  | nil => cases l' with
    | nil => exact .nil
    | cons x l' => simp at hlen
  | cons x l ih => cases l' with
    | nil => simp at hlen
    | cons x' l' =>
      refine .cons (h 0 x x' (by simp) (by simp)) (ih (by simpa using hlen) ?_)
      intro i v v' h1 h2
      exact h (i + 1) v v' (by simpa using h1) (by simpa using h2)

theorem takeN_eq {α : Type} : ∀ (n : Nat) (l r : List α), takeN n l = some r → r = l.take n ∧ n ≤ l.length
  | 0, l, r, h => by simp [takeN] at h; simp [h]
  | n + 1, [], r, h => by simp [takeN] at h
  | n + 1, x :: l, r, h => by
    simp only [takeN] at h
    split at h
    · rename_i r' hr
      obtain ⟨e, hle⟩ := takeN_eq n l r' hr
      simp at h; subst h; subst e
      exact ⟨by simp, by simpa using hle⟩
    · simp at h

theorem dropN_eq {α : Type} : ∀ (n : Nat) (l r : List α), dropN n l = some r → r = l.drop n ∧ n ≤ l.length
  | 0, l, r, h => by simp [dropN] at h; simp [h]
  | n + 1, [], r, h => by simp [dropN] at h
  | n + 1, x :: l, r, h => by
    obtain ⟨e, hle⟩ := dropN_eq n l r h
    exact ⟨by simpa using e, by simpa using hle⟩

theorem cutN_eq {α : Type} {o n : Nat} {l r : List α} (h : cutN o n l = some r) : r = (l.drop o).take n ∧ o + n ≤ l.length := by
  unfold cutN at h
  cases hd : dropN o l with
  | none => simp [hd] at h
  | some d =>
    obtain ⟨e, hle⟩ := dropN_eq _ _ _ hd
    simp [hd] at h
    obtain ⟨e', hle'⟩ := takeN_eq _ _ _ h
    subst e; simp at hle'
    exact ⟨e', by omega⟩

theorem overlay_eq {α : Type} : ∀ (l vs r : List α), overlay l vs = some r → r = vs ++ l.drop vs.length ∧ vs.length ≤ l.length
  | l, [], r, h => by cases l <;> (simp [overlay] at h; simp [h])
  | [], _ :: _, r, h => by simp [overlay] at h
  | x :: l, v :: vs, r, h => by
    simp only [overlay] at h
    split at h
    · rename_i r' hr
      obtain ⟨e, hle⟩ := overlay_eq l vs r' hr
      simp at h; subst h; subst e
      exact ⟨by simp, by simpa using hle⟩
    · simp at h

theorem splice_eq {α : Type} : ∀ (o : Nat) (l vs r : List α), splice o l vs = some r → r = l.take o ++ vs ++ l.drop (o + vs.length) ∧ o + vs.length ≤ l.length
  | 0, l, vs, r, h => by
    obtain ⟨e, hle⟩ := overlay_eq l vs r (by simpa [splice] using h)
    exact ⟨by simpa using e, by omega⟩
  | o + 1, [], vs, r, h => by simp [splice] at h
  | o + 1, x :: l, vs, r, h => by
    simp only [splice] at h
    split at h
    · rename_i r' hr
      obtain ⟨e, hle⟩ := splice_eq o l vs r' hr
      simp at h; subst h; subst e
      refine ⟨?_, by simp; omega⟩
      have : o + 1 + vs.length = (o + vs.length) + 1 := by omega
      simp [this]
    · simp at h

theorem splice_get {α : Type} {o : Nat} {l vs r : List α} (h : splice o l vs = some r) (i : Nat) : r[i]? = if o ≤ i ∧ i < o + vs.length then vs[i - o]? else l[i]? := by
  obtain ⟨e, hle⟩ := splice_eq _ _ _ _ h
  subst e
  by_cases h1 : i < o
  · rw [if_neg (by omega), List.append_assoc, List.getElem?_append_left (by simp; omega), List.getElem?_take_of_lt h1]
  · by_cases h2 : i < o + vs.length
    · rw [if_pos ⟨by omega, h2⟩, List.append_assoc, List.getElem?_append_right (by simp; omega), List.getElem?_append_left (by simp; omega)]
      congr 1; simp; omega
    · rw [if_neg (by omega), List.getElem?_append_right (by simp; omega), List.getElem?_drop]
      congr 1; simp; omega

theorem splice_len {α : Type} {o : Nat} {l vs r : List α} (h : splice o l vs = some r) : r.length = l.length := by
  obtain ⟨e, hle⟩ := splice_eq _ _ _ _ h
  subst e; simp; omega

end lists

theorem cellsOf_eq (v : Value) : cellsOf v = v.cells.toList := by cases v <;> rfl

theorem VR.cells {m : Mu} {v v' : Value} (h : VR m v v') : VRs m (cellsOf v) (cellsOf v') := by
  cases h with
  | agg h => exact h
  | _ => exact .cons (by constructor <;> assumption) .nil

theorem VR.one {m : Mu} {v v' : Value} (h : VR m v v') : one v = one v' := by cases h <;> rfl

/-- Entries of maps. -/
inductive ER (m : Mu) : List MapEntry → List MapEntry → Prop
  | nil : ER m [] []
  | cons {e e' : MapEntry} {l l' : List MapEntry} (hk : VR m e.key e'.key) (hv : VR m e.val e'.val) (hb : e.born = e'.born) (h : ER m l l') : ER m (e :: l) (e' :: l')

theorem ER.mono {m m' : Mu} (hm : m.le m') : ∀ {l l' : List MapEntry}, ER m l l' → ER m' l l'
  | _, _, .nil => .nil
  | _, _, .cons a b c h => .cons (a.mono hm) (b.mono hm) c (h.mono hm)

theorem ER.length {m : Mu} : ∀ {l l' : List MapEntry}, ER m l l' → l.length = l'.length
  | _, _, .nil => rfl
  | _, _, .cons _ _ _ h => by simp [h.length]

/-- A block of the abstract heap lies in the world. -/
def BR (m : Mu) (w : World) : Blk → Loc → Prop
  | .cells l _, L => ∃ c fz e, w.heap[L.blk]? = some (.cells c e fz) ∧ c.size = L.n ∧ (fz.1 = fz.2 ∨ L.n ≤ fz.1) ∧ L.sh + l.length ≤ L.n ∧
      ∀ i v, l[i]? = some v → ∃ v', c[L.sh + i]? = some v' ∧ VR m v v'
  | .map es clock, L => ∃ es', w.heap[L.blk]? = some (.map es' clock) ∧ ER m es es'.toList

theorem BR.mono {m m' : Mu} (hm : m.le m') {w w' : World} {B : Blk} {L : Loc} (h : BR m w B L) (hw : w'.heap[L.blk]? = w.heap[L.blk]?) : BR m' w' B L := by
  cases B with
  | cells l e =>
    obtain ⟨c, fz, e', h1, h2, h3, h4, h5⟩ := h
    exact ⟨c, fz, e', hw.trans h1, h2, h3, h4, fun i v hv => let ⟨v', a, b⟩ := h5 i v hv; ⟨v', a, b.mono hm⟩⟩
  | map es clock =>
    obtain ⟨es', h1, h2⟩ := h
    exact ⟨es', hw.trans h1, h2.mono hm⟩

/-- What lies outside is as in the first world, and is left alone. -/
structure Base where
  w0 : World
  K : Nat → Prop

structure ExtOk (X : Ctx) (S : Base) : Prop where
  ext : ∀ b o v, X.ext b o = some v → S.K b ∧ ∃ v', S.w0.cell? ⟨b, o, none⟩ = some v' ∧ VR (fun _ => none) v v'

structure Rel (S : Base) (m : Mu) (H : Heap) (w : World) : Prop where
  wf : ∀ b, H.next ≤ b → H.get b = none
  alive : ∀ b B, H.get b = some B → ∃ L, m b = some L ∧ BR m w B L
  inj : ∀ i j Bi Bj Li Lj, H.get i = some Bi → H.get j = some Bj → m i = some Li → m j = some Lj → Li.blk = Lj.blk → i = j
  bound : ∀ b L, m b = some L → L.blk < w.heap.size
  open_ : ∀ b B L, H.get b = some B → m b = some L → ¬ S.K L.blk
  kept : ∀ b, S.K b → b < w.heap.size ∧ w.heap[b]? = S.w0.heap[b]?
  os : w.os = S.w0.os
  out : w.output = S.w0.output
  tape : w.tape = S.w0.tape

/-- The numbers that a run hands out are free. -/
def Free (H H' : Heap) (m : Mu) : Prop := ∀ b, H.next ≤ b → b < H'.next → m b = none

/-- A map that has grown by the numbers that a run handed out. -/
structure Grow (H H' : Heap) (m m' : Mu) : Prop where
  le : m.le m'
  same : ∀ b, (b < H.next ∨ H'.next ≤ b) → m' b = m b

theorem Grow.refl (H : Heap) (m : Mu) : Grow H H m m := ⟨m.le_refl, fun _ _ => rfl⟩

theorem Free.left {H H1 H' : Heap} {m : Mu} (h : Free H H' m) (hle : H1.next ≤ H'.next) : Free H H1 m := fun b h1 h2 => h b h1 (by omega)

theorem Free.right {H H1 H' : Heap} {m m1 : Mu} (h : Free H H' m) (hg : Grow H H1 m m1) (hle : H.next ≤ H1.next) : Free H1 H' m1 := fun b h1 h2 => by
  rw [hg.same b (.inr h1)]; exact h b (by omega) h2

theorem Grow.trans {H H1 H' : Heap} {m m1 m' : Mu} (h : Grow H H1 m m1) (h' : Grow H1 H' m1 m') (h1 : H.next ≤ H1.next) (h2 : H1.next ≤ H'.next) : Grow H H' m m' :=
  ⟨Mu.le_trans h.le h'.le, fun b hb => by
    rw [h'.same b (by omega), h.same b (by omega)]⟩

theorem Grow.of_next {H H' : Heap} {m : Mu} : Grow H H' m m := ⟨m.le_refl, fun _ _ => rfl⟩

@[simp] theorem Heap.get_set (H : Heap) (b : Nat) (B : Blk) (j : Nat) : (H.set b B).get j = if j = b then some B else H.get j := by simp [Heap.get, Heap.set]
@[simp] theorem Heap.get_kill (H : Heap) (b : Nat) (j : Nat) : (H.kill b).get j = if j = b then none else H.get j := by simp [Heap.get, Heap.kill]
@[simp] theorem Heap.get_alloc (H : Heap) (B : Blk) (j : Nat) : (H.alloc B).get j = if j = H.next then some B else H.get j := by simp [Heap.get, Heap.alloc]
@[simp] theorem Heap.next_set (H : Heap) (b : Nat) (B : Blk) : (H.set b B).next = H.next := rfl
@[simp] theorem Heap.next_kill (H : Heap) (b : Nat) : (H.kill b).next = H.next := rfl
@[simp] theorem Heap.next_alloc (H : Heap) (B : Blk) : (H.alloc B).next = H.next + 1 := rfl

def Mu.set (m : Mu) (b : Nat) (L : Loc) : Mu := fun j => if j = b then some L else m j

theorem Mu.le_set {m : Mu} {b : Nat} (h : m b = none) (L : Loc) : m.le (m.set b L) := by
  intro j L' hj
  unfold Mu.set
  split
  · rename_i e; subst e; rw [h] at hj; cases hj
  · exact hj

theorem Grow.alloc {H : Heap} {m : Mu} (h : m H.next = none) (L : Loc) {H' : Heap} (hn : H'.next = H.next + 1) : Grow H H' m (m.set H.next L) :=
  ⟨Mu.le_set h L, fun b hb => by unfold Mu.set; rw [if_neg (by omega)]⟩

theorem Rel.get_lt {S : Base} {m : Mu} {H : Heap} {w : World} (h : Rel S m H w) {b : Nat} {B : Blk} (hb : H.get b = some B) : b < H.next := by
  rcases Nat.lt_or_ge b H.next with h' | h'
  · exact h'
  · rw [h.wf b h'] at hb; cases hb

/-- A new block, under a number that is free. -/
theorem Rel.allocAt {S : Base} {m : Mu} {H H' : Heap} {w : World} (h : Rel S m H w) {n : Nat} (hm : m n = none) (B : Blk) (o : Obj) (L : Loc) (hL : L.blk = w.heap.size)
    (hB : BR (m.set n L) (w.alloc o) B L) (hget : ∀ j, H'.get j = if j = n then some B else H.get j) (hwf : ∀ b, H'.next ≤ b → H'.get b = none) : Rel S (m.set n L) H' (w.alloc o) := by
  have hle := Mu.le_set hm L
  have hold : ∀ b, b < w.heap.size → (w.alloc o).heap[b]? = w.heap[b]? := by
    intro b hb; simp only [World.alloc, Array.getElem?_push]; rw [if_neg (by omega)]
  refine ⟨hwf, ?_, ?_, ?_, ?_, ?_, h.os, h.out, h.tape⟩
  · intro b B' hb
    rw [hget] at hb
    split at hb
    · rename_i e; subst e; cases hb
      exact ⟨L, by simp [Mu.set], hB⟩
    · obtain ⟨L', hm, hbr⟩ := h.alive b B' hb
      exact ⟨L', hle _ _ hm, hbr.mono hle (hold _ (h.bound _ _ hm))⟩
  · intro i j Bi Bj Li Lj hi hj hmi hmj e
    rw [hget] at hi hj
    unfold Mu.set at hmi hmj
    by_cases ei : i = n <;> by_cases ej : j = n
    · omega
    · rw [if_pos ei] at hmi; rw [if_neg ej] at hmj; cases hmi
      have := h.bound _ _ hmj; omega
    · rw [if_neg ei] at hmi; rw [if_pos ej] at hmj; cases hmj
      have := h.bound _ _ hmi; omega
    · rw [if_neg ei] at hmi hi; rw [if_neg ej] at hmj hj
      exact h.inj i j Bi Bj Li Lj hi hj hmi hmj e
  · intro b L' hb
    unfold Mu.set at hb
    split at hb
    · cases hb; simp [hL]
    · have := h.bound b L' hb; simp; omega
  · intro b B' L' hb hmb
    rw [hget] at hb
    unfold Mu.set at hmb
    split at hb
    · rename_i e
      rw [if_pos e] at hmb; cases hmb
      intro hk
      have := (h.kept _ hk).1; omega
    · rename_i e
      rw [if_neg e] at hmb
      exact h.open_ _ _ _ hb hmb
  · intro b hb
    have := h.kept b hb
    exact ⟨by simp; omega, (hold b this.1).trans this.2⟩

theorem Rel.alloc {S : Base} {m : Mu} {H : Heap} {w : World} (h : Rel S m H w) (hm : m H.next = none) (B : Blk) (o : Obj) (L : Loc) (hL : L.blk = w.heap.size)
    (hB : BR (m.set H.next L) (w.alloc o) B L) : Rel S (m.set H.next L) (H.alloc B) (w.alloc o) :=
  h.allocAt hm B o L hL hB (fun j => Heap.get_alloc H B j) (fun b hb => by
    simp only [Heap.next_alloc] at hb
    rw [Heap.get_alloc, if_neg (by omega)]; exact h.wf b (by omega))

/-- A draw changes nothing that is looked at. -/
theorem Rel.drew {S : Base} {m : Mu} {H : Heap} {w : World} (h : Rel S m H w) : Rel S m H { w with drawn := w.drawn + 1 } :=
  ⟨h.wf, fun b B hb => let ⟨L, a, c⟩ := h.alive b B hb; ⟨L, a, c.mono (Mu.le_refl _) rfl⟩, h.inj, h.bound, h.open_, h.kept, h.os, h.out, h.tape⟩

/-- A living block is written. -/
theorem Rel.set {S : Base} {m : Mu} {H : Heap} {w w' : World} (h : Rel S m H w) {b : Nat} {L : Loc} {B B' : Blk} (hg : H.get b = some B') (hm : m b = some L)
    (hsize : w'.heap.size = w.heap.size) (hold : ∀ j, j ≠ L.blk → w'.heap[j]? = w.heap[j]?) (hos : w'.os = w.os) (hout : w'.output = w.output) (htape : w'.tape = w.tape)
    (hB : BR m w' B L) : Rel S m (H.set b B) w' := by
  have has : ∀ j Bj, (H.set b B).get j = some Bj → ∃ Bj', H.get j = some Bj' := by
    intro j Bj hj
    simp only [Heap.get_set] at hj
    split at hj
    · rename_i e; subst e; exact ⟨_, hg⟩
    · exact ⟨_, hj⟩
  refine ⟨?_, ?_, ?_, ?_, ?_, ?_, hos.trans h.os, hout.trans h.out, htape.trans h.tape⟩
  · intro j hj
    have hlt := h.get_lt hg
    simp only [Heap.next_set] at hj
    rw [Heap.get_set, if_neg (by omega)]; exact h.wf j hj
  · intro j Bj hj
    simp only [Heap.get_set] at hj
    split at hj
    · rename_i e; subst e; cases hj; exact ⟨L, hm, hB⟩
    · rename_i hne
      obtain ⟨Lj, hmj, hbr⟩ := h.alive j Bj hj
      refine ⟨Lj, hmj, hbr.mono (Mu.le_refl _) (hold _ ?_)⟩
      intro e
      exact hne (h.inj j b Bj B' Lj L hj hg hmj hm e)
  · intro i j Bi Bj Li Lj hi hj hmi hmj e
    obtain ⟨_, hi'⟩ := has _ _ hi
    obtain ⟨_, hj'⟩ := has _ _ hj
    exact h.inj i j _ _ Li Lj hi' hj' hmi hmj e
  · intro j Lj hj; rw [hsize]; exact h.bound j Lj hj
  · intro j Bj Lj hj hmj
    obtain ⟨_, hj'⟩ := has _ _ hj
    exact h.open_ _ _ _ hj' hmj
  · intro j hj
    have := h.kept j hj
    have hne : j ≠ L.blk := fun e => h.open_ b _ L hg hm (e ▸ hj)
    exact ⟨by rw [hsize]; exact this.1, (hold j hne).trans this.2⟩

/-- A block is forgotten. -/
theorem Rel.kill {S : Base} {m : Mu} {H : Heap} {w : World} (h : Rel S m H w) (b : Nat) : Rel S m (H.kill b) w := by
  have has : ∀ j Bj, (H.kill b).get j = some Bj → H.get j = some Bj := by
    intro j Bj hj
    simp only [Heap.get_kill] at hj
    split at hj
    · cases hj
    · exact hj
  refine ⟨?_, fun j Bj hj => h.alive j Bj (has _ _ hj), ?_, h.bound, fun j Bj Lj hj hm => h.open_ j Bj Lj (has _ _ hj) hm, h.kept, h.os, h.out, h.tape⟩
  · intro j hj
    simp only [Heap.next_kill] at hj
    rw [Heap.get_kill]; split
    · rfl
    · exact h.wf j hj
  · intro i j Bi Bj Li Lj hi hj hmi hmj e
    exact h.inj i j Bi Bj Li Lj (has _ _ hi) (has _ _ hj) hmi hmj e

/-- A second name for a block whose first one is forgotten; what it holds is written anew. -/
theorem Rel.rename {S : Base} {m : Mu} {H : Heap} {w w' : World} (h : Rel S m H w) (hfree : m H.next = none) {b : Nat} {L L' : Loc} {B B' : Blk} (hg : H.get b = some B') (hm : m b = some L) (hL : L'.blk = L.blk)
    (hsize : w'.heap.size = w.heap.size) (hold : ∀ j, j ≠ L.blk → w'.heap[j]? = w.heap[j]?) (hos : w'.os = w.os) (hout : w'.output = w.output) (htape : w'.tape = w.tape)
    (hB : BR (m.set H.next L') w' B L') : Rel S (m.set H.next L') ((H.kill b).alloc B) w' := by
  have hle := Mu.le_set hfree L'
  have hget : ∀ j, ((H.kill b).alloc B).get j = if j = H.next then some B else if j = b then none else H.get j := by
    intro j; simp only [Heap.get_alloc, Heap.get_kill, Heap.next_kill]
  refine ⟨?_, ?_, ?_, ?_, ?_, ?_, hos.trans h.os, hout.trans h.out, htape.trans h.tape⟩
  · intro j hj
    simp only [Heap.next_alloc, Heap.next_kill] at hj
    rw [hget, if_neg (by omega)]
    split
    · rfl
    · exact h.wf j (by omega)
  · intro j Bj hj
    rw [hget] at hj
    split at hj
    · rename_i e; subst e; cases hj; exact ⟨L', by simp [Mu.set], hB⟩
    · split at hj
      · cases hj
      · rename_i hne
        obtain ⟨Lj, hmj, hbr⟩ := h.alive j Bj hj
        refine ⟨Lj, hle _ _ hmj, hbr.mono hle (hold _ ?_)⟩
        intro e
        exact hne (h.inj j b Bj B' Lj L hj hg hmj hm e)
  · intro i j Bi Bj Li Lj hi hj hmi hmj e
    rw [hget] at hi hj
    unfold Mu.set at hmi hmj
    by_cases ei : i = H.next <;> by_cases ej : j = H.next
    · omega
    · rw [if_pos ei] at hmi; rw [if_neg ej] at hmj hj; cases hmi
      split at hj
      · cases hj
      · rename_i hne
        exact absurd (h.inj j b Bj B' Lj L hj hg hmj hm (by rw [← e, hL])) hne
    · rw [if_pos ej] at hmj; rw [if_neg ei] at hmi hi; cases hmj
      split at hi
      · cases hi
      · rename_i hne
        exact absurd (h.inj i b Bi B' Li L hi hg hmi hm (by rw [e, hL])) hne
    · rw [if_neg ei] at hmi hi; rw [if_neg ej] at hmj hj
      by_cases e1 : i = b
      · rw [if_pos e1] at hi; cases hi
      · by_cases e2 : j = b
        · rw [if_pos e2] at hj; cases hj
        · rw [if_neg e1] at hi; rw [if_neg e2] at hj
          exact h.inj i j Bi Bj Li Lj hi hj hmi hmj e
  · intro j Lj hj
    unfold Mu.set at hj
    split at hj
    · cases hj; rw [hL, hsize]; exact h.bound b L hm
    · rw [hsize]; exact h.bound j Lj hj
  · intro j Bj Lj hj hmj
    rw [hget] at hj
    unfold Mu.set at hmj
    by_cases ej : j = H.next
    · rw [if_pos ej] at hmj; cases hmj
      rw [hL]; exact h.open_ _ _ _ hg hm
    · rw [if_neg ej] at hmj hj
      split at hj
      · cases hj
      · exact h.open_ _ _ _ hj hmj
  · intro j hj
    have := h.kept j hj
    have hne : j ≠ L.blk := fun e => h.open_ b _ L hg hm (e ▸ hj)
    exact ⟨by rw [hsize]; exact this.1, (hold j hne).trans this.2⟩

/-- The frame. -/
structure RelF (m : Mu) (F : Frm) (tmps : Array Value) : Prop where
  size : tmps.size = F.n
  val : ∀ t, VR m ((F.t.get t).getD undef) (tmps.getD t undef)

theorem VR.undef (m : Mu) : VR m undef undef := .tuple .nil

theorem RelF.mono {m m' : Mu} (hm : m.le m') {F : Frm} {tmps : Array Value} (h : RelF m F tmps) : RelF m' F tmps := ⟨h.size, fun t => (h.val t).mono hm⟩

theorem RelF.put {m : Mu} {F F' : Frm} {a : Act} {d : Option Tmp} {v v' : Value} (h : RelF m F a.tmps) (hv : VR m v v') (hp : F.put d v = some F') : RelF m F' (a.put d v').tmps := by
  cases d with
  | none => rw [Frm.put_none] at hp; cases hp; exact h
  | some d =>
    rw [Frm.put_some] at hp
    cases hlt : Nat.blt d F.n with
    | false => simp [hlt] at hp
    | true =>
      simp [hlt] at hp; subst hp
      have hd : d < a.tmps.size := by rw [h.size]; exact Nat.le_of_ble_eq_true hlt
      refine ⟨by simp [Act.put, h.size], fun t => ?_⟩
      by_cases e : t = d
      · subst e
        simp [Act.put, hd]
        exact hv
      · have := h.val t
        simp [Act.put, e, Ne.symm e] at this ⊢
        exact this

/-- A constant that means the same everywhere. -/
def plainV : Value → Bool
  | .bool _ | .int _ _ | .float _ _ | .complex _ _ _ | .string _ | .pointer none | .slice none _ _ | .map none | .chan none | .nilFunc | .nilIface => true
  | .agg a => plainL a.toList
  | _ => false
where
  plainL : List Value → Bool
    | [] => true
    | .bool _ :: l | .int _ _ :: l | .float _ _ :: l | .string _ :: l | .pointer none :: l | .slice none _ _ :: l | .map none :: l | .chan none :: l | .nilFunc :: l | .nilIface :: l => plainL l
    | _ => false

theorem plainL_refl (m : Mu) : ∀ (l : List Value), plainV.plainL l = true → VRs m l l
  | [], _ => .nil
  | v :: l, h => by
    unfold plainV.plainL at h
    split at h <;> first
      | (rename_i e; cases e; done)
      | (rename_i e; cases e; exact .cons (by constructor) (plainL_refl m _ h))
      | cases h

theorem plainV_refl (m : Mu) (v : Value) (h : plainV v = true) : VR m v v := by
  unfold plainV at h
  split at h <;> first
    | (cases h; done)
    | (constructor; done)
    | exact .agg (plainL_refl m _ h)

def okO : Operand → Bool
  | .const v => plainV v
  | _ => true

theorem RelF.eval {m : Mu} {F : Frm} {a : Act} (h : RelF m F a.tmps) {x : Operand} (hx : okO x = true) : VR m (F.eval x) (a.eval x) := by
  cases x with
  | tmp t => exact h.val t
  | const v => exact plainV_refl m v hx
  | global g => exact .ptrG g 0
  | func f => exact .func _ .nil .nil

theorem RelF.evals {m : Mu} {F : Frm} {a : Act} (h : RelF m F a.tmps) : ∀ {l : List Operand}, l.all okO = true → VRs m (l.map F.eval) (l.map a.eval)
  | [], _ => .nil
  | x :: l, hx => by
    simp only [List.all_cons, Bool.and_eq_true] at hx
    exact .cons (h.eval hx.1) (h.evals hx.2)

section types
variable {P : Program} {t : TypeId} {i : TI} (h : tinfo P t = some i)
include h

theorem tinfo_spec : ∃ info d z, P.info? t = some info ∧ P.underlying t = some d ∧ info.zero = some z ∧ info.size = i.size ∧ info.bytes = i.bytes ∧ i.k = tkOf P d ∧ i.zero = cellsOf z ∧
    i.agg = aggD d ∧ i.plain = plainT P t d ∧ isAggV z = aggD d ∧ fieldsIn P d = true := by
  unfold tinfo at h
  split at h
  · rename_i info d h1 h2
    split at h
    · rename_i z h3
      cases hc : (isAggV z == aggD d && fieldsIn P d) with
      | false => simp [hc] at h
      | true =>
        simp [hc] at h
        simp at hc
        subst h
        exact ⟨info, d, z, h1, h2, h3, rfl, rfl, rfl, rfl, rfl, rfl, hc.1, hc.2⟩
    · cases h
  · cases h

theorem run_typeInfo (w : World) : ∃ info, (typeInfo t).run P w = .ok info w ∧ info.size = i.size ∧ info.bytes = i.bytes := by
  obtain ⟨info, d, z, h1, h2, h3, h4, h5, -⟩ := tinfo_spec h
  exact ⟨info, by simp [typeInfo, h1], h4, h5⟩

theorem run_sizeOf (w : World) : (sizeOf t).run P w = .ok i.size w := by
  obtain ⟨info, d, z, h1, h2, h3, h4, h5, -⟩ := tinfo_spec h
  simp [sizeOf, typeInfo, h1, h4]

theorem run_underlying (w : World) : ∃ d, (underlying t).run P w = .ok d w ∧ i.k = tkOf P d ∧ i.agg = aggD d ∧ P.underlying t = some d := by
  obtain ⟨info, d, z, h1, h2, h3, h4, h5, h6, h7, h8, -⟩ := tinfo_spec h
  exact ⟨d, by simp [underlying, h2], h6, h8, h2⟩

theorem run_isAgg (w : World) : (isAgg t).run P w = .ok i.agg w := by
  obtain ⟨d, h1, h2, h3, -⟩ := run_underlying h w
  rw [h3]
  unfold isAgg
  rw [Sem.run_bind, h1]
  simp only [Result.andThen_ok]
  cases d <;> rfl

theorem run_zeroValue (w : World) : ∃ z, (zeroValue t).run P w = .ok z w ∧ i.zero = cellsOf z ∧ isAggV z = i.agg := by
  obtain ⟨info, d, z, h1, h2, h3, h4, h5, h6, h7, h8, h9, h10, -⟩ := tinfo_spec h
  exact ⟨z, by simp [zeroValue, typeInfo, h1, h3], h7, by rw [h10, h8]⟩

end types

theorem zero_val {i : TI} :  ∀ {z : Value}, i.zero = cellsOf z → isAggV z = i.agg → ∀ v, tiVal i = some v → v = z := by
  intro z h1 h2 v hv
  unfold tiVal at hv
  cases z with
  | agg a =>
    have : i.agg = true := by rw [← h2]; rfl
    simp [this, h1, cellsOf] at hv; rw [← hv]
  | _ =>
    have : i.agg = false := by rw [← h2]; rfl
    simp [this, h1, cellsOf, getN] at hv; rw [← hv]

theorem tkOf_slice {P : Program} {d : TypeDesc} {e : TypeId} (h : TK.slice e = tkOf P d) : d = .slice e := by cases d <;> simp [tkOf] at h; rw [h]
theorem tkOf_int {P : Program} {d : TypeDesc} {k : IntKind} (h : TK.int k = tkOf P d) : d = .int k := by cases d <;> simp [tkOf] at h; rw [h]
theorem tkOf_str {P : Program} {d : TypeDesc} (h : TK.str = tkOf P d) : d = .string := by cases d <;> simp [tkOf] at h; rfl
theorem tkOf_bool {P : Program} {d : TypeDesc} (h : TK.bool = tkOf P d) : d = .bool := by cases d <;> simp [tkOf] at h; rfl
theorem tkOf_ptr {P : Program} {d : TypeDesc} {e : TypeId} (h : TK.ptr e = tkOf P d) : d = .pointer e := by cases d <;> simp [tkOf] at h; rw [h]
theorem tkOf_arr {P : Program} {d : TypeDesc} {n : Nat} {e : TypeId} (h : TK.arr n e = tkOf P d) : d = .array n e := by cases d <;> simp [tkOf] at h; rw [h.1, h.2]
theorem tkOf_map {P : Program} {d : TypeDesc} {k e : TypeId} (h : TK.map k e = tkOf P d) : d = .map k e := by cases d <;> simp [tkOf] at h; rw [h.1, h.2]
theorem tkOf_func {P : Program} {d : TypeDesc} (h : TK.func = tkOf P d) : ∃ a b c, d = .func a b c := by cases d <;> simp [tkOf] at h; exact ⟨_, _, _, rfl⟩
theorem tkOf_struct {P : Program} {d : TypeDesc} {fs : List (Nat × TypeId × Nat)} (h : TK.struct fs = tkOf P d) : ∃ gs, d = .struct gs ∧ fs = gs.toList.map fun f => (f.offset, f.type, P.cellsOf f.type) := by
  cases d <;> simp [tkOf] at h; exact ⟨_, rfl, h⟩

end Ev
end Go.Proofs.Ytglkgmomnbdkoaa
