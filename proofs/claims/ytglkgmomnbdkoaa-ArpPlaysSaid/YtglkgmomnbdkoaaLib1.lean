/- Words and laws for proofs over predicates of texts: heaps, slices, whole numbers. Nothing is said of one program here. -/
import Derived.Test.YtglkgmomnbdkoaaWp2
namespace Go.Proofs.Ytglkgmomnbdkoaa
namespace Ev

/-! heaps -/
@[simp] theorem Heap.get_alloc_self (H : Heap) (B : Blk) : (H.alloc B).get H.next = some B := by simp [Heap.get_alloc]
theorem Heap.get_alloc_ne {H : Heap} {B : Blk} {b : Nat} (h : b ≠ H.next) : (H.alloc B).get b = H.get b := by simp [Heap.get_alloc, h]
@[simp] theorem Heap.get_set_self (H : Heap) (c : Nat) (B : Blk) : (H.set c B).get c = some B := by simp [Heap.get_set]
theorem Heap.get_set_ne {H : Heap} {c : Nat} {B : Blk} {b : Nat} (h : b ≠ c) : (H.set c B).get b = H.get b := by simp [Heap.get_set, h]
theorem Heap.get_kill_ne {H : Heap} {c b : Nat} (h : b ≠ c) : (H.kill c).get b = H.get b := by simp [Heap.get_kill, h]

/-- All that lay outside of S lies as it lay. -/
structure Kp (S : Nat → Prop) (H H' : Heap) : Prop where
  le : H.next ≤ H'.next
  get : ∀ b, b < H.next → ¬ S b → H'.get b = H.get b

/-- All that lay lies as it lay. -/
abbrev Ext (H H' : Heap) : Prop := Kp (fun _ => False) H H'

theorem Kp.refl (S : Nat → Prop) (H : Heap) : Kp S H H := ⟨Nat.le_refl _, fun _ _ _ => rfl⟩
theorem Kp.trans {S : Nat → Prop} {H H1 H2 : Heap} (h : Kp S H H1) (h' : Kp S H1 H2) : Kp S H H2 :=
  ⟨Nat.le_trans h.le h'.le, fun b hb hs => by rw [h'.get b (Nat.lt_of_lt_of_le hb h.le) hs, h.get b hb hs]⟩
theorem Kp.mono {S S' : Nat → Prop} {H H' : Heap} (h : Kp S H H') (hs : ∀ b, b < H.next → S b → S' b) : Kp S' H H' := ⟨h.le, fun b hb hn => h.get b hb fun s => hn (hs b hb s)⟩
/-- What a later step changes above is new. -/
theorem Kp.then {S S' : Nat → Prop} {H H1 H2 : Heap} (h : Kp S H H1) (h' : Kp S' H1 H2) (hs : ∀ b, b < H.next → S' b → S b) : Kp S H H2 :=
  ⟨Nat.le_trans h.le h'.le, fun b hb hn => by rw [h'.get b (Nat.lt_of_lt_of_le hb h.le) fun s => hn (hs b hb s), h.get b hb hn]⟩
theorem Kp.get' {H H' : Heap} (h : Ext H H') {b : Nat} (hb : b < H.next) : H'.get b = H.get b := h.get b hb id
theorem Kp.alloc (S : Nat → Prop) (H : Heap) (B : Blk) : Kp S H (H.alloc B) := ⟨by simp, fun b hb _ => Heap.get_alloc_ne (by omega)⟩
theorem Kp.set (H : Heap) (c : Nat) (B : Blk) {S : Nat → Prop} (hs : c < H.next → S c) : Kp S H (H.set c B) := ⟨by simp, fun b hb hn => Heap.get_set_ne fun e => hn (by subst e; exact hs hb)⟩
theorem Kp.kill (H : Heap) (c : Nat) {S : Nat → Prop} (hs : c < H.next → S c) : Kp S H (H.kill c) := ⟨by simp, fun b hb hn => Heap.get_kill_ne fun e => hn (by subst e; exact hs hb)⟩
theorem Kp.alloc' {S : Nat → Prop} {H H1 : Heap} (h : Kp S H H1) (B : Blk) : Kp S H (H1.alloc B) := h.trans (.alloc _ _ _)
theorem Kp.set' {S : Nat → Prop} {H H1 : Heap} (h : Kp S H H1) {c : Nat} (B : Blk) (hs : c < H.next → S c) : Kp S H (H1.set c B) :=
  ⟨by simp [h.le], fun b hb hn => by rw [Heap.get_set_ne (fun e => hn (by subst e; exact hs hb)), h.get b hb hn]⟩
theorem Kp.kill' {S : Nat → Prop} {H H1 : Heap} (h : Kp S H H1) {c : Nat} (hs : c < H.next → S c) : Kp S H (H1.kill c) :=
  ⟨by simp [h.le], fun b hb hn => by rw [Heap.get_kill_ne (fun e => hn (by subst e; exact hs hb)), h.get b hb hn]⟩

/-! the words of predicates -/
section
variable {X : Ctx} {H : Heap}

@[simp] theorem Ok_some {α : Type} (a : α) (K : α → Prop) : Ok (some a) K = K a := propext ⟨fun ⟨_, e, k⟩ => by cases e; exact k, fun k => ⟨a, rfl, k⟩⟩
@[simp] theorem Ok2_some (v : Value) (H : Heap) (K : Value → Heap → Prop) : Ok2 (some (v, H)) K = K v H := propext ⟨fun ⟨_, _, e, k⟩ => by cases e; exact k, fun k => ⟨v, H, rfl, k⟩⟩
theorem Ok_of {α : Type} {x : Option α} {a : α} {K : α → Prop} (h : x = some a) (k : K a) : Ok x K := ⟨a, h, k⟩
theorem Ok2_of {x : Option (Value × Heap)} {v : Value} {H' : Heap} {K : Value → Heap → Prop} (h : x = some (v, H')) (k : K v H') : Ok2 x K := ⟨v, H', h, k⟩
@[simp] theorem Br_true (A B : Prop) : Br (.bool true) A B = A := by simp [Br]
@[simp] theorem Br_false (A B : Prop) : Br (.bool false) A B = B := by simp [Br]
theorem Br_dec (p : Prop) [Decidable p] (A B : Prop) : Br (.bool (decide p)) A B = ((p → A) ∧ (¬ p → B)) := by
  by_cases h : p <;> simp [Br, h]
theorem Br_ndec (p : Prop) [Decidable p] (A B : Prop) : Br (.bool (!decide p)) A B = ((¬ p → A) ∧ (p → B)) := by
  by_cases h : p <;> simp [Br, h]
theorem Br_bool (b : Bool) (A B : Prop) : Br (.bool b) A B = ((b = true → A) ∧ (b = false → B)) := by cases b <;> simp
@[simp] theorem FA_ptr (b o n : Nat) (s : Option Nat) (K : Value → Prop) : FA (.pointer (some ⟨b, o, s⟩)) n K = K (.pointer (some ⟨b, o + n, s⟩)) := by simp [FA, addA]
@[simp] theorem Ld1_ptr (a : Addr) (K : Value → Prop) : Ld1 X H (.pointer (some a)) K = Ok (rd1 X H a) K := by simp [Ld1, Ok]
@[simp] theorem LdN_ptr (a : Addr) (n : Nat) (K : Value → Prop) : LdN X H (.pointer (some a)) n K = Ok (rdN X H a n) (fun l => K (.agg ⟨l⟩)) := by simp [LdN, Ok]
@[simp] theorem St_ptr (a : Addr) (n : Nat) (v : Value) (K : Heap → Prop) : St H (.pointer (some a)) n v K = ((cellsOf v).length = n ∧ Ok (wrN H a (cellsOf v)) K) := by simp [St, Ok]
@[simp] theorem IA_slice (b o : Nat) (s : Option Nat) (len cap m : Nat) (k : IntKind) (n : Int) (K : Value → Prop) : IA (.slice (some ⟨b, o, s⟩) len cap) (.int k n) m K = ((0 ≤ n ∧ n < len) ∧ K (.pointer (some ⟨b, o + n.toNat * m, s⟩))) := by
  simp only [IA, addA]
  exact propext ⟨fun ⟨_, _, _, _, _, e1, e2, h0, h1, k⟩ => by cases e1; cases e2; exact ⟨⟨h0, h1⟩, k⟩, fun ⟨⟨h0, h1⟩, k⟩ => ⟨_, _, _, _, _, rfl, rfl, h0, h1, k⟩⟩
@[simp] theorem IAr_ptr (b o : Nat) (s : Option Nat) (len m : Nat) (k : IntKind) (n : Int) (K : Value → Prop) : IAr (.pointer (some ⟨b, o, s⟩)) (.int k n) len m K = ((0 ≤ n ∧ n < len) ∧ K (.pointer (some ⟨b, o + n.toNat * m, s⟩))) := by
  simp only [IAr, addA]
  exact propext ⟨fun ⟨_, _, _, e1, e2, h0, h1, k⟩ => by cases e1; cases e2; exact ⟨⟨h0, h1⟩, k⟩, fun ⟨⟨h0, h1⟩, k⟩ => ⟨_, _, _, rfl, rfl, h0, h1, k⟩⟩
@[simp] theorem Al_eq (B : Blk) (K : Value → Heap → Prop) : Al H B K = K (.pointer (some ⟨H.next, 0, none⟩)) (H.alloc B) := rfl
@[simp] theorem AlM_eq (K : Value → Heap → Prop) : AlM H K = K (.map (some H.next)) (H.alloc (.map [] 0)) := rfl
@[simp] theorem CV_func (g : Nat) (first captured : Array Value) (args : List Value) (K : Value → Heap → Prop) : CV X (.func (.func g) first captured) args H K = C X g (first.toList ++ args ++ captured.toList) H K := by
  simp only [CV]
  exact propext ⟨fun ⟨_, _, _, e, k⟩ => by cases e; exact k, fun k => ⟨_, _, _, rfl, k⟩⟩
@[simp] theorem nilCheck_ptr (a : Addr) : nilCheck (.pointer (some a)) = some (.pointer (some a)) := rfl
@[simp] theorem extract_mk (l : List Value) (i : Nat) : extract (.tuple ⟨l⟩) i = getN l i := rfl
@[simp] theorem getN_zero {α : Type} (x : α) (l : List α) : getN (x :: l) 0 = some x := rfl
@[simp] theorem getN_succ {α : Type} (x : α) (l : List α) (n : Nat) : getN (x :: l) (n + 1) = getN l n := rfl
@[simp] theorem pickV_true (a b : Value) : pickV (.bool true) a b = some a := rfl
@[simp] theorem pickV_false (a b : Value) : pickV (.bool false) a b = some b := rfl
@[simp] theorem un_not (b : Bool) : un .not (.bool b) = some (.bool (!b)) := rfl
@[simp] theorem cellsOf_int (k : IntKind) (n : Int) : cellsOf (.int k n) = [.int k n] := rfl
@[simp] theorem cellsOf_bool (b : Bool) : cellsOf (.bool b) = [.bool b] := rfl
@[simp] theorem cellsOf_slice (a : Option Addr) (n c : Nat) : cellsOf (.slice a n c) = [.slice a n c] := rfl
@[simp] theorem cellsOf_ptr (a : Option Addr) : cellsOf (.pointer a) = [.pointer a] := rfl
@[simp] theorem cellsOf_map (a : Option Nat) : cellsOf (.map a) = [.map a] := rfl
@[simp] theorem cellsOf_string (s : ByteArray) : cellsOf (.string s) = [.string s] := rfl
@[simp] theorem cellsOf_func (f : Fn) (a b : Array Value) : cellsOf (.func f a b) = [.func f a b] := rfl
@[simp] theorem cellsOf_agg (l : List Value) : cellsOf (.agg ⟨l⟩) = l := rfl
theorem cellsOf_one {v : Value} (h : one v = true) : cellsOf v = [v] := by cases v <;> first | rfl | cases h
@[simp] theorem one_int (k : IntKind) (n : Int) : one (.int k n) = true := by simp only [one]
@[simp] theorem one_bool (b : Bool) : one (.bool b) = true := by simp only [one]
@[simp] theorem one_slice (a : Option Addr) (n c : Nat) : one (.slice a n c) = true := by simp only [one]
@[simp] theorem one_ptr (a : Option Addr) : one (.pointer a) = true := by simp only [one]
@[simp] theorem one_map (a : Option Nat) : one (.map a) = true := by simp only [one]
@[simp] theorem one_string (s : ByteArray) : one (.string s) = true := by simp only [one]

theorem rd1_own {b o : Nat} {l : List Value} {e : TypeId} (h : H.get b = some (.cells l e)) : rd1 X H ⟨b, o, none⟩ = getN l o := by simp [rd1, h]
theorem rdN_own {b o n : Nat} {l : List Value} {e : TypeId} (h : H.get b = some (.cells l e)) : rdN X H ⟨b, o, none⟩ n = cutN o n l := by simp [rdN, h]
theorem wrN_own {b o : Nat} {l : List Value} {e : TypeId} {vs : List Value} (h : H.get b = some (.cells l e)) (hv : vs.all one = true) : wrN H ⟨b, o, none⟩ vs = (splice o l vs).map fun l' => H.set b (.cells l' e) := by
  simp only [wrN, h, hv, cond_true]
  cases splice o l vs <;> rfl

/-! whole numbers -/
@[simp] theorem bin_add (t : TypeId) (k : IntKind) (a b : Int) : bin X .add t (.int k a) (.int k b) = some (.int k (wrapF k (a + b))) := by simp [bin, intOp]
@[simp] theorem bin_sub (t : TypeId) (k : IntKind) (a b : Int) : bin X .sub t (.int k a) (.int k b) = some (.int k (wrapF k (a - b))) := by simp [bin, intOp]
@[simp] theorem bin_mul (t : TypeId) (k : IntKind) (a b : Int) : bin X .mul t (.int k a) (.int k b) = some (.int k (wrapF k (a * b))) := by simp [bin, intOp]
@[simp] theorem bin_eql (t : TypeId) (k : IntKind) (a b : Int) : bin X .eql t (.int k a) (.int k b) = some (.bool (decide (a = b))) := by
  have : (a == b) = decide (a = b) := by by_cases h : a = b <;> simp [h]
  simp only [bin, intOp, if_true, this]
@[simp] theorem bin_neq (t : TypeId) (k : IntKind) (a b : Int) : bin X .neq t (.int k a) (.int k b) = some (.bool (!decide (a = b))) := by
  have : (a != b) = !decide (a = b) := by by_cases h : a = b <;> simp [h]
  simp only [bin, intOp, if_true, this]
@[simp] theorem bin_lss (t : TypeId) (k : IntKind) (a b : Int) : bin X .lss t (.int k a) (.int k b) = some (.bool (decide (a < b))) := by simp [bin, intOp]
@[simp] theorem bin_leq (t : TypeId) (k : IntKind) (a b : Int) : bin X .leq t (.int k a) (.int k b) = some (.bool (decide (a ≤ b))) := by simp [bin, intOp]
@[simp] theorem bin_gtr (t : TypeId) (k : IntKind) (a b : Int) : bin X .gtr t (.int k a) (.int k b) = some (.bool (decide (b < a))) := by simp [bin, intOp]
@[simp] theorem bin_geq (t : TypeId) (k : IntKind) (a b : Int) : bin X .geq t (.int k a) (.int k b) = some (.bool (decide (b ≤ a))) := by simp [bin, intOp]
theorem bin_shr {t : TypeId} {k k' : IntKind} {a b : Int} (hb : 0 ≤ b) : bin X .shr t (.int k a) (.int k' b) = some (.int k (a.fdiv ((2 ^ (min b.toNat (bitsF k)) : Nat) : Int))) := by
  simp [bin, shiftOp, Int.not_lt.2 hb]
theorem bin_shl {t : TypeId} {k k' : IntKind} {a b : Int} (hb : 0 ≤ b) : bin X .shl t (.int k a) (.int k' b) = some (.int k (wrapF k (a * ((2 ^ (min b.toNat (bitsF k)) : Nat) : Int)))) := by
  simp [bin, shiftOp, Int.not_lt.2 hb]
@[simp] theorem bin_beq (t : TypeId) (a b : Bool) (i : TI) (h : X.tt.get t = some i) (hk : i.k = .bool) : bin X .eql t (.bool a) (.bool b) = some (.bool (a == b)) := by simp [bin, eqV, h, hk]

theorem wrap_i64 {n : Int} (h : -9223372036854775808 ≤ n ∧ n < 9223372036854775808) : wrapF .i64 n = n := by
  simp only [wrapF]; split <;> omega
theorem wrap_u64 {n : Int} (h : 0 ≤ n ∧ n < 18446744073709551616) : wrapF .u64 n = n := by simp only [wrapF]; omega
theorem wrap_u32 {n : Int} (h : 0 ≤ n ∧ n < 4294967296) : wrapF .u32 n = n := by simp only [wrapF]; omega
theorem wrap_u16 {n : Int} (h : 0 ≤ n ∧ n < 65536) : wrapF .u16 n = n := by simp only [wrapF]; omega
theorem wrap_u8 {n : Int} (h : 0 ≤ n ∧ n < 256) : wrapF .u8 n = n := by simp only [wrapF]; omega
end

/-! loops that count upwards -/
theorem loop_up {P : List Value → Heap → Prop} (n : Nat) (Inv : Nat → List Value → Heap → Prop)
    (step : ∀ i vs H, i < n → Inv i vs H → (∀ vs' H', Inv (i + 1) vs' H' → P vs' H') → P vs H) (last : ∀ vs H, Inv n vs H → P vs H) :
    ∀ {i : Nat} {vs : List Value} {H : Heap}, i ≤ n → Inv i vs H → P vs H := by
  intro i vs H hi h
  obtain ⟨k, hk⟩ : ∃ k, n = i + k := ⟨n - i, by omega⟩
  induction k generalizing i vs H with
  | zero => simp only [Nat.add_zero] at hk; subst hk; exact last vs H h
  | succ k ih => exact step i vs H (by omega) h fun vs' H' h' => ih (by omega) h' (by omega)

/-! numbers as bytes -/
def B8 (bs : List Int) : List Value := bs.map (.int .u8)
def Byt (bs : List Int) : Prop := ∀ b ∈ bs, 0 ≤ b ∧ b < 256
@[simp] theorem B8_length (bs : List Int) : (B8 bs).length = bs.length := by simp [B8]
@[simp] theorem B8_append (a b : List Int) : B8 (a ++ b) = B8 a ++ B8 b := by simp [B8]
@[simp] theorem B8_nil : B8 [] = [] := rfl
theorem Byt.append {a b : List Int} (h : Byt a) (h' : Byt b) : Byt (a ++ b) := by
  intro x hx
  rcases List.mem_append.1 hx with hx | hx
  · exact h x hx
  · exact h' x hx
theorem B8_one (bs : List Int) : (B8 bs).all one = true := by simp [B8]
theorem B8_inj {a b : List Int} (h : B8 a = B8 b) : a = b := by
  induction a generalizing b with
  | nil => cases b with
    | nil => rfl
    | cons y b => simp [B8] at h
  | cons x a ih => cases b with
    | nil => simp [B8] at h
    | cons y b =>
      simp only [B8, List.map_cons, List.cons.injEq, Value.int.injEq, true_and] at h
      rw [h.1, ih h.2]

/-! cells of slices -/
theorem takeN_all {α : Type} : ∀ (l : List α), takeN l.length l = some l
  | [] => rfl
  | x :: l => by simp [takeN, takeN_all l]
theorem takeN_of {α : Type} : ∀ {n : Nat} {l : List α}, n ≤ l.length → takeN n l = some (l.take n)
  | 0, l, _ => by cases l <;> rfl
  | n + 1, [], h => by simp at h
  | n + 1, x :: l, h => by simp [takeN, takeN_of (n := n) (l := l) (by simpa using h)]
theorem dropN_of {α : Type} : ∀ {n : Nat} {l : List α}, n ≤ l.length → dropN n l = some (l.drop n)
  | 0, l, _ => by cases l <;> rfl
  | n + 1, [], h => by simp at h
  | n + 1, x :: l, h => by simp [dropN, dropN_of (n := n) (l := l) (by simpa using h)]
theorem cutN_of {α : Type} {o n : Nat} {l : List α} (h : o + n ≤ l.length) : cutN o n l = some ((l.drop o).take n) := by
  simp only [cutN, dropN_of (show o ≤ l.length by omega), Option.bind_some]
  exact takeN_of (by simp; omega)
theorem cutN_all {α : Type} (l : List α) : cutN 0 l.length l = some l := by
  rw [cutN_of (by omega)]; simp
theorem overlay_of : ∀ {l vs : List Value}, vs.length ≤ l.length → overlay l vs = some (vs ++ l.drop vs.length)
  | l, [], _ => by cases l <;> simp [overlay]
  | [], v :: vs, h => by simp at h
  | x :: l, v :: vs, h => by simp [overlay, overlay_of (l := l) (vs := vs) (by simpa using h)]
theorem splice_of : ∀ {o : Nat} {l vs : List Value}, o + vs.length ≤ l.length → splice o l vs = some (l.take o ++ vs ++ l.drop (o + vs.length))
  | 0, l, vs, h => by
    have : splice 0 l vs = overlay l vs := by cases l <;> rfl
    rw [this, overlay_of (by omega)]; simp
  | o + 1, [], vs, h => by simp at h
  | o + 1, x :: l, vs, h => by
    have := splice_of (o := o) (l := l) (vs := vs) (by simp at h; omega)
    simp only [splice, this]
    simp [Nat.add_right_comm]
theorem cellsAt_zero {X : Ctx} {H : Heap} (a : Option Addr) (n c : Nat) : cellsAt X H 0 (.slice a n c) = some [] := by cases a <;> rfl
theorem cellsAt_some {X : Ctx} {H : Heap} {a : Addr} {l c n : Nat} (h : n ≠ 0) : cellsAt X H n (.slice (some a) l c) = rdN X H a n := by
  have : Nat.beq n 0 = false := by cases n with
    | zero => exact absurd rfl h
    | succ n => rfl
  simp [cellsAt, this]
theorem cellsAt_own {X : Ctx} {H : Heap} {b o l c n : Nat} {cs : List Value} {e : TypeId} (h : H.get b = some (.cells cs e)) (hn : o + n ≤ cs.length) : cellsAt X H n (.slice (some ⟨b, o, none⟩) l c) = some ((cs.drop o).take n) := by
  by_cases h0 : n = 0
  · subst h0; rw [cellsAt_zero]; simp
  · rw [cellsAt_some h0, rdN_own h, cutN_of hn]

end Ev
end Go.Proofs.Ytglkgmomnbdkoaa
