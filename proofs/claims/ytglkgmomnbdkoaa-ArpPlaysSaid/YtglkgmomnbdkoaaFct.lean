/- Made by a program of ours (facts.py): what simp should know of the seat's types. -/
import Derived.Test.YtglkgmomnbdkoaaLib2
import Derived.Test.YtglkgmomnbdkoaaTab
namespace Go.Proofs.Ytglkgmomnbdkoaa
namespace Ev
section
variable {ext : Nat → Nat → Option Value} {spec : FuncId → Option (List Value → Heap → Option (Value × Heap))} {H : Heap}
theorem tt_3 : (Tab.ctx ext spec).tt.get 3 = some Tab.i3 := (show Tab.tt.get 3 = some Tab.i3 by kernel_rfl)
theorem tt_4 : (Tab.ctx ext spec).tt.get 4 = some Tab.i4 := (show Tab.tt.get 4 = some Tab.i4 by kernel_rfl)
theorem tt_5 : (Tab.ctx ext spec).tt.get 5 = some Tab.i5 := (show Tab.tt.get 5 = some Tab.i5 by kernel_rfl)
theorem tt_9 : (Tab.ctx ext spec).tt.get 9 = some Tab.i9 := (show Tab.tt.get 9 = some Tab.i9 by kernel_rfl)
theorem tt_22 : (Tab.ctx ext spec).tt.get 22 = some Tab.i22 := (show Tab.tt.get 22 = some Tab.i22 by kernel_rfl)
theorem tt_23 : (Tab.ctx ext spec).tt.get 23 = some Tab.i23 := (show Tab.tt.get 23 = some Tab.i23 by kernel_rfl)
theorem tt_24 : (Tab.ctx ext spec).tt.get 24 = some Tab.i24 := (show Tab.tt.get 24 = some Tab.i24 by kernel_rfl)
theorem tt_25 : (Tab.ctx ext spec).tt.get 25 = some Tab.i25 := (show Tab.tt.get 25 = some Tab.i25 by kernel_rfl)
theorem tt_28 : (Tab.ctx ext spec).tt.get 28 = some Tab.i28 := (show Tab.tt.get 28 = some Tab.i28 by kernel_rfl)
theorem tt_29 : (Tab.ctx ext spec).tt.get 29 = some Tab.i29 := (show Tab.tt.get 29 = some Tab.i29 by kernel_rfl)
theorem tt_31 : (Tab.ctx ext spec).tt.get 31 = some Tab.i31 := (show Tab.tt.get 31 = some Tab.i31 by kernel_rfl)
theorem tt_33 : (Tab.ctx ext spec).tt.get 33 = some Tab.i33 := (show Tab.tt.get 33 = some Tab.i33 by kernel_rfl)
theorem tt_34 : (Tab.ctx ext spec).tt.get 34 = some Tab.i34 := (show Tab.tt.get 34 = some Tab.i34 by kernel_rfl)
theorem tt_39 : (Tab.ctx ext spec).tt.get 39 = some Tab.i39 := (show Tab.tt.get 39 = some Tab.i39 by kernel_rfl)
theorem tt_42 : (Tab.ctx ext spec).tt.get 42 = some Tab.i42 := (show Tab.tt.get 42 = some Tab.i42 by kernel_rfl)
theorem tt_45 : (Tab.ctx ext spec).tt.get 45 = some Tab.i45 := (show Tab.tt.get 45 = some Tab.i45 by kernel_rfl)
theorem tt_57 : (Tab.ctx ext spec).tt.get 57 = some Tab.i57 := (show Tab.tt.get 57 = some Tab.i57 by kernel_rfl)
theorem tt_59 : (Tab.ctx ext spec).tt.get 59 = some Tab.i59 := (show Tab.tt.get 59 = some Tab.i59 by kernel_rfl)
theorem tt_62 : (Tab.ctx ext spec).tt.get 62 = some Tab.i62 := (show Tab.tt.get 62 = some Tab.i62 by kernel_rfl)
theorem tt_64 : (Tab.ctx ext spec).tt.get 64 = some Tab.i64 := (show Tab.tt.get 64 = some Tab.i64 by kernel_rfl)
theorem tt_67 : (Tab.ctx ext spec).tt.get 67 = some Tab.i67 := (show Tab.tt.get 67 = some Tab.i67 by kernel_rfl)
theorem tt_74 : (Tab.ctx ext spec).tt.get 74 = some Tab.i74 := (show Tab.tt.get 74 = some Tab.i74 by kernel_rfl)
theorem tt_76 : (Tab.ctx ext spec).tt.get 76 = some Tab.i76 := (show Tab.tt.get 76 = some Tab.i76 by kernel_rfl)
theorem tt_78 : (Tab.ctx ext spec).tt.get 78 = some Tab.i78 := (show Tab.tt.get 78 = some Tab.i78 by kernel_rfl)
theorem tt_86 : (Tab.ctx ext spec).tt.get 86 = some Tab.i86 := (show Tab.tt.get 86 = some Tab.i86 by kernel_rfl)
theorem tt_101 : (Tab.ctx ext spec).tt.get 101 = some Tab.i101 := (show Tab.tt.get 101 = some Tab.i101 by kernel_rfl)
theorem tt_107 : (Tab.ctx ext spec).tt.get 107 = some Tab.i107 := (show Tab.tt.get 107 = some Tab.i107 by kernel_rfl)
theorem tt_111 : (Tab.ctx ext spec).tt.get 111 = some Tab.i111 := (show Tab.tt.get 111 = some Tab.i111 by kernel_rfl)
@[simp] theorem len_107 (a : Option Addr) (n c : Nat) : builtin (Tab.ctx ext spec) H .len [107] [.slice a n c] = some (.int .i64 n, H) := len_sl tt_107 rfl a n c
@[simp] theorem len_111 (a : Option Addr) (n c : Nat) : builtin (Tab.ctx ext spec) H .len [111] [.slice a n c] = some (.int .i64 n, H) := len_sl tt_111 rfl a n c
@[simp] theorem len_23 (a : Option Addr) (n c : Nat) : builtin (Tab.ctx ext spec) H .len [23] [.slice a n c] = some (.int .i64 n, H) := len_sl tt_23 rfl a n c
@[simp] theorem len_29 (a : Option Addr) (n c : Nat) : builtin (Tab.ctx ext spec) H .len [29] [.slice a n c] = some (.int .i64 n, H) := len_sl tt_29 rfl a n c
@[simp] theorem len_34 (a : Option Addr) (n c : Nat) : builtin (Tab.ctx ext spec) H .len [34] [.slice a n c] = some (.int .i64 n, H) := len_sl tt_34 rfl a n c
@[simp] theorem len_39 (a : Option Addr) (n c : Nat) : builtin (Tab.ctx ext spec) H .len [39] [.slice a n c] = some (.int .i64 n, H) := len_sl tt_39 rfl a n c
@[simp] theorem len_57 (a : Option Addr) (n c : Nat) : builtin (Tab.ctx ext spec) H .len [57] [.slice a n c] = some (.int .i64 n, H) := len_sl tt_57 rfl a n c
@[simp] theorem len_74 (a : Option Addr) (n c : Nat) : builtin (Tab.ctx ext spec) H .len [74] [.slice a n c] = some (.int .i64 n, H) := len_sl tt_74 rfl a n c
@[simp] theorem conv_22_28 (k : IntKind) (n : Int) : conv (Tab.ctx ext spec) H 22 28 (.int k n) = some (.int .u64 (wrapF .u64 n), H) := conv_int tt_22 tt_28 rfl
@[simp] theorem conv_28_3 (k : IntKind) (n : Int) : conv (Tab.ctx ext spec) H 28 3 (.int k n) = some (.int .i64 (wrapF .i64 n), H) := conv_int tt_28 tt_3 rfl
@[simp] theorem conv_28_5 (k : IntKind) (n : Int) : conv (Tab.ctx ext spec) H 28 5 (.int k n) = some (.int .u8 (wrapF .u8 n), H) := conv_int tt_28 tt_5 rfl
@[simp] theorem conv_28_76 (k : IntKind) (n : Int) : conv (Tab.ctx ext spec) H 28 76 (.int k n) = some (.int .u16 (wrapF .u16 n), H) := conv_int tt_28 tt_76 rfl
@[simp] theorem conv_3_28 (k : IntKind) (n : Int) : conv (Tab.ctx ext spec) H 3 28 (.int k n) = some (.int .u64 (wrapF .u64 n), H) := conv_int tt_3 tt_28 rfl
@[simp] theorem conv_3_5 (k : IntKind) (n : Int) : conv (Tab.ctx ext spec) H 3 5 (.int k n) = some (.int .u8 (wrapF .u8 n), H) := conv_int tt_3 tt_5 rfl
@[simp] theorem conv_5_28 (k : IntKind) (n : Int) : conv (Tab.ctx ext spec) H 5 28 (.int k n) = some (.int .u64 (wrapF .u64 n), H) := conv_int tt_5 tt_28 rfl
@[simp] theorem conv_5_3 (k : IntKind) (n : Int) : conv (Tab.ctx ext spec) H 5 3 (.int k n) = some (.int .i64 (wrapF .i64 n), H) := conv_int tt_5 tt_3 rfl
@[simp] theorem conv_76_28 (k : IntKind) (n : Int) : conv (Tab.ctx ext spec) H 76 28 (.int k n) = some (.int .u64 (wrapF .u64 n), H) := conv_int tt_76 tt_28 rfl
@[simp] theorem build_33_04 (x0 x4 : Value) (hx0 : one x0 = true) (hx4 : one x4 = true) : build (Tab.ctx ext spec) 33 [(0, x0), (4, x4)] = some (.agg ⟨[x0, .int .u32 0, .slice none 0 0, .int .i64 0, .int .u64 0, .int .u32 0, .int .u64 0, .int .u32 0, x4]⟩) := by simp only [build, fillL, cellsOf_one hx0, cellsOf_one hx4]; kernel_rfl
@[simp] theorem build_64_013 (x0 x1 x3 : Value) (hx0 : one x0 = true) (hx1 : one x1 = true) (hx3 : one x3 = true) : build (Tab.ctx ext spec) 64 [(0, x0), (1, x1), (3, x3)] = some (.agg ⟨[x0, x1, .int .i64 0, x3, .int .i64 0]⟩) := by simp only [build, fillL, cellsOf_one hx0, cellsOf_one hx1, cellsOf_one hx3]; kernel_rfl
@[simp] theorem build_67_012 (x0 x1 x2 : Value) (hx0 : one x0 = true) (hx1 : one x1 = true) (hx2 : one x2 = true) : build (Tab.ctx ext spec) 67 [(0, x0), (1, x1), (2, x2)] = some (.agg ⟨[x0, x1, x2, .int .i64 0, .slice none 0 0]⟩) := by simp only [build, fillL, cellsOf_one hx0, cellsOf_one hx1, cellsOf_one hx2]; kernel_rfl
@[simp] theorem build_42_0123 (x0 x1 x2 x3 : Value) (hx0 : one x0 = true) (hx1 : one x1 = true) (hx2 : one x2 = true) (hx3 : one x3 = true) : build (Tab.ctx ext spec) 42 [(0, x0), (1, x1), (2, x2), (3, x3)] = some (.agg ⟨[x0, x1, x2, x3]⟩) := by simp only [build, fillL, cellsOf_one hx0, cellsOf_one hx1, cellsOf_one hx2, cellsOf_one hx3]; kernel_rfl
@[simp] theorem build_78_0123 (x0 x1 x2 x3 : Value) (hx0 : one x0 = true) (hx1 : one x1 = true) (hx2 : one x2 = true) (hx3 : one x3 = true) : build (Tab.ctx ext spec) 78 [(0, x0), (1, x1), (2, x2), (3, x3)] = some (.agg ⟨[x0, x1, x2, x3]⟩) := by simp only [build, fillL, cellsOf_one hx0, cellsOf_one hx1, cellsOf_one hx2, cellsOf_one hx3]; kernel_rfl
@[simp] theorem build_31_01234 (x0 x1 x2 x3 x4 : Value) (hx0 : one x0 = true) (hx1 : one x1 = true) (hx2 : one x2 = true) (hx3 : one x3 = true) (hx4 : one x4 = true) : build (Tab.ctx ext spec) 31 [(0, x0), (1, x1), (2, x2), (3, x3), (4, x4)] = some (.agg ⟨[x0, x1, x2, x3, x4]⟩) := by simp only [build, fillL, cellsOf_one hx0, cellsOf_one hx1, cellsOf_one hx2, cellsOf_one hx3, cellsOf_one hx4]; kernel_rfl
@[simp] theorem build_78_ : build (Tab.ctx ext spec) 78 [] = some (.agg ⟨[.int .u64 0, .int .u64 0, .int .u16 0, .slice none 0 0]⟩) := by kernel_rfl
@[simp] theorem build_59_01 (x0 x1 : Value) (hx0 : one x0 = true) (hx1 : one x1 = true) : build (Tab.ctx ext spec) 59 [(0, x0), (1, x1)] = some (.agg ⟨[x0, x1, .int .i64 0, .slice none 0 0, .int .i64 0]⟩) := by simp only [build, fillL, cellsOf_one hx0, cellsOf_one hx1]; kernel_rfl
@[simp] theorem build_86_0345 (x0 x3 x4 x5 : Value) (hx0 : one x0 = true) (hx3 : one x3 = true) (hx4 : one x4 = true) (hx5 : one x5 = true) : build (Tab.ctx ext spec) 86 [(0, x0), (3, x3), (4, x4), (5, x5)] = some (.agg ⟨[x0, .bool false, .int .u64 0, x3, x4, x5]⟩) := by simp only [build, fillL, cellsOf_one hx0, cellsOf_one hx3, cellsOf_one hx4, cellsOf_one hx5]; kernel_rfl
@[simp] theorem build_86_0123 (x0 x1 x2 x3 : Value) (hx0 : one x0 = true) (hx1 : one x1 = true) (hx2 : one x2 = true) (hx3 : one x3 = true) : build (Tab.ctx ext spec) 86 [(0, x0), (1, x1), (2, x2), (3, x3)] = some (.agg ⟨[x0, x1, x2, x3, .int .i64 0, .slice none 0 0]⟩) := by simp only [build, fillL, cellsOf_one hx0, cellsOf_one hx1, cellsOf_one hx2, cellsOf_one hx3]; kernel_rfl
@[simp] theorem build_101_01 (x0 x1 : Value) (hx0 : one x0 = true) (hx1 : one x1 = true) : build (Tab.ctx ext spec) 101 [(0, x0), (1, x1)] = some (.agg ⟨[x0, x1]⟩) := by simp only [build, fillL, cellsOf_one hx0, cellsOf_one hx1]; kernel_rfl
@[simp] theorem bsl_29_1 (x0 : Value) (hx0 : one x0 = true) : buildSlice (Tab.ctx ext spec) H 29 1 [(0, x0)] = some (.slice (some ⟨H.next, 0, none⟩) 1 1, H.alloc (.cells [x0] 5)) := by simp only [buildSlice, fillL, cellsOf_one hx0]; kernel_rfl
@[simp] theorem bsl_34_1 (x0 : Value) (hx0 : one x0 = true) : buildSlice (Tab.ctx ext spec) H 34 1 [(0, x0)] = some (.slice (some ⟨H.next, 0, none⟩) 1 1, H.alloc (.cells [x0] 29)) := by simp only [buildSlice, fillL, cellsOf_one hx0]; kernel_rfl
@[simp] theorem bsl_39_1 (x0_0 x0_1 x0_2 x0_3 : Value) : buildSlice (Tab.ctx ext spec) H 39 1 [(0, .agg ⟨[x0_0, x0_1, x0_2, x0_3]⟩)] = some (.slice (some ⟨H.next, 0, none⟩) 1 1, H.alloc (.cells [x0_0, x0_1, x0_2, x0_3] 42)) := by kernel_rfl
@[simp] theorem bsl_57_0 : buildSlice (Tab.ctx ext spec) H 57 0 [] = some (.slice (some ⟨H.next, 0, none⟩) 0 0, H.alloc (.cells [] 86)) := by kernel_rfl
@[simp] theorem bsl_29_0 : buildSlice (Tab.ctx ext spec) H 29 0 [] = some (.slice (some ⟨H.next, 0, none⟩) 0 0, H.alloc (.cells [] 5)) := by kernel_rfl
@[simp] theorem bsl_39_0 : buildSlice (Tab.ctx ext spec) H 39 0 [] = some (.slice (some ⟨H.next, 0, none⟩) 0 0, H.alloc (.cells [] 42)) := by kernel_rfl
@[simp] theorem bsl_34_0 : buildSlice (Tab.ctx ext spec) H 34 0 [] = some (.slice (some ⟨H.next, 0, none⟩) 0 0, H.alloc (.cells [] 29)) := by kernel_rfl
@[simp] theorem bsl_57_1 (x0_0 x0_1 x0_2 x0_3 x0_4 x0_5 : Value) : buildSlice (Tab.ctx ext spec) H 57 1 [(0, .agg ⟨[x0_0, x0_1, x0_2, x0_3, x0_4, x0_5]⟩)] = some (.slice (some ⟨H.next, 0, none⟩) 1 1, H.alloc (.cells [x0_0, x0_1, x0_2, x0_3, x0_4, x0_5] 86)) := by kernel_rfl
@[simp] theorem bsl_107_2 (x0 x1 : Value) (hx0 : one x0 = true) (hx1 : one x1 = true) : buildSlice (Tab.ctx ext spec) H 107 2 [(0, x0), (1, x1)] = some (.slice (some ⟨H.next, 0, none⟩) 2 2, H.alloc (.cells [x0, x1] 28)) := by simp only [buildSlice, fillL, cellsOf_one hx0, cellsOf_one hx1]; kernel_rfl
@[simp] theorem bsl_111_3 (x0_0 x0_1 x1_0 x1_1 x2_0 x2_1 : Value) : buildSlice (Tab.ctx ext spec) H 111 3 [(0, .agg ⟨[x0_0, x0_1]⟩), (1, .agg ⟨[x1_0, x1_1]⟩), (2, .agg ⟨[x2_0, x2_1]⟩)] = some (.slice (some ⟨H.next, 0, none⟩) 3 3, H.alloc (.cells [x0_0, x0_1, x1_0, x1_1, x2_0, x2_1] 101)) := by kernel_rfl
@[simp] theorem bsl_111_6 (x0_0 x0_1 x1_0 x1_1 x2_0 x2_1 x3_0 x3_1 x4_0 x4_1 x5_0 x5_1 : Value) : buildSlice (Tab.ctx ext spec) H 111 6 [(0, .agg ⟨[x0_0, x0_1]⟩), (1, .agg ⟨[x1_0, x1_1]⟩), (2, .agg ⟨[x2_0, x2_1]⟩), (3, .agg ⟨[x3_0, x3_1]⟩), (4, .agg ⟨[x4_0, x4_1]⟩), (5, .agg ⟨[x5_0, x5_1]⟩)] = some (.slice (some ⟨H.next, 0, none⟩) 6 6, H.alloc (.cells [x0_0, x0_1, x1_0, x1_1, x2_0, x2_1, x3_0, x3_1, x4_0, x4_1, x5_0, x5_1] 101)) := by kernel_rfl
@[simp] theorem bsl_29_8 (x0 x1 x2 x3 x4 x5 x6 x7 : Value) (hx0 : one x0 = true) (hx1 : one x1 = true) (hx2 : one x2 = true) (hx3 : one x3 = true) (hx4 : one x4 = true) (hx5 : one x5 = true) (hx6 : one x6 = true) (hx7 : one x7 = true) : buildSlice (Tab.ctx ext spec) H 29 8 [(0, x0), (1, x1), (2, x2), (3, x3), (4, x4), (5, x5), (6, x6), (7, x7)] = some (.slice (some ⟨H.next, 0, none⟩) 8 8, H.alloc (.cells [x0, x1, x2, x3, x4, x5, x6, x7] 5)) := by simp only [buildSlice, fillL, cellsOf_one hx0, cellsOf_one hx1, cellsOf_one hx2, cellsOf_one hx3, cellsOf_one hx4, cellsOf_one hx5, cellsOf_one hx6, cellsOf_one hx7]; kernel_rfl
@[simp] theorem eql_24 (p : Option Addr) : bin (Tab.ctx ext spec) .eql 24 (.pointer p) (.pointer none) = some (.bool (p.isNone)) := by cases p <;> simp [bin, eqV, tt_24, Tab.i24]
@[simp] theorem eql_29 (p : Option Addr) (n c : Nat) : bin (Tab.ctx ext spec) .eql 29 (.slice p n c) (.slice none 0 0) = some (.bool (p.isNone)) := by cases p <;> simp [bin, eqV, tt_29, Tab.i29]
@[simp] theorem eql_34 (p : Option Addr) (n c : Nat) : bin (Tab.ctx ext spec) .eql 34 (.slice p n c) (.slice none 0 0) = some (.bool (p.isNone)) := by cases p <;> simp [bin, eqV, tt_34, Tab.i34]
@[simp] theorem eql_45 (p : Option Addr) : bin (Tab.ctx ext spec) .eql 45 (.pointer p) (.pointer none) = some (.bool (p.isNone)) := by cases p <;> simp [bin, eqV, tt_45, Tab.i45]
@[simp] theorem neq_24 (p : Option Addr) : bin (Tab.ctx ext spec) .neq 24 (.pointer p) (.pointer none) = some (.bool (!p.isNone)) := by cases p <;> simp [bin, eqV, tt_24, Tab.i24]
@[simp] theorem neq_4 (p q : Bool) : bin (Tab.ctx ext spec) .neq 4 (.bool p) (.bool q) = some (.bool (!(p == q))) := by cases p <;> cases q <;> simp [bin, eqV, tt_4, Tab.i4]
@[simp] theorem field_67_2 (x0 x1 x2 x3 x4 : Value) : field (Tab.ctx ext spec) 67 (.agg ⟨[x0, x1, x2, x3, x4]⟩) 2 = some x2 := by simp [field, tt_67, Tab.i67, tt_3, Tab.i3, partOf]
@[simp] theorem load_78 (a : Addr) : load (Tab.ctx ext spec) H 78 (.pointer (some a)) = (rdN (Tab.ctx ext spec) H a 4).map fun l => .agg ⟨l⟩ := by simp only [load, tt_78, Tab.i78, cond_true]; cases rdN (Tab.ctx ext spec) H a 4 <;> rfl
end
end Ev
end Go.Proofs.Ytglkgmomnbdkoaa
