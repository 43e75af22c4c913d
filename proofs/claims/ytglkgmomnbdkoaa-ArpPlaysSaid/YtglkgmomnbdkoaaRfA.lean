/- RfA: Ref1 Ref2 Ref3 Ref4 Ref5 Ref6 Ref7 Ref8 in one text. -/
import Derived.Test.YtglkgmomnbdkoaaCh3
import Derived.Test.YtglkgmomnbdkoaaCh4
/- Contracts of the document's own frames (trunklineref01, trunklineref08), by the predicates of their texts. -/
namespace Go.Proofs.Ytglkgmomnbdkoaa
namespace Ev
variable {ext : Nat → Nat → Option Value} {H : Heap}

/-- Cells of which those behind i are laid. -/
def laidD (n i : Nat) (v : Int) : List Value := (List.range n).map fun j => .int .u8 (if i ≤ j then byteAt n v j else 0)

theorem laidD_zero (n : Nat) (v : Int) : laidD n 0 v = B8 (be n v) := by
  unfold laidD B8 be
  rw [List.map_map]
  exact List.map_congr_left fun j hj => by simp

theorem laidD_all (n : Nat) (v : Int) : laidD n n v = repl [.int .u8 0] n := by
  rw [← laid_zero n v]
  unfold laidD laid
  refine List.map_congr_left fun j hj => ?_
  rw [List.mem_range] at hj
  simp [show ¬ n ≤ j by omega]

theorem laidD_step {n i : Nat} (h : i < n) (v : Int) : splice i (laidD n (i + 1) v) [.int .u8 (byteAt n v i)] = some (laidD n i v) := by
  rw [splice_of (by simp [laidD]; omega)]
  congr 1
  refine List.ext_getElem? fun j => ?_
  simp only [laidD, List.length_singleton]
  rcases Nat.lt_trichotomy j i with hj | hj | hj
  · rw [List.append_assoc, List.getElem?_append_left (by simp; omega), List.getElem?_take_of_lt hj]
    have : j < n := by omega
    simp [this, show ¬ i + 1 ≤ j by omega, show ¬ i ≤ j by omega]
  · subst hj
    rw [List.append_assoc, List.getElem?_append_right (by simp; omega), List.getElem?_append_left (by simp; omega)]
    have : min j n = j := by omega
    simp [this, h]
  · rw [List.getElem?_append_right (by simp; omega)]
    have e : min i n = i := by omega
    simp only [List.length_append, List.length_take, List.length_map, List.length_range, List.length_singleton, List.getElem?_drop, e]
    have : i + 1 + (j - (i + 1)) = j := by omega
    rw [this]
    by_cases hjn : j < n
    · simp [hjn, show i + 1 ≤ j by omega, show i ≤ j by omega]
    · simp [show n ≤ j by omega]

theorem bin_rem' {X : Ctx} {t : TypeId} {k : IntKind} {a b : Int} (hb : b ≠ 0) : bin X .rem t (.int k a) (.int k b) = some (.int k (a.tmod b)) := by simp [bin, intOp, hb]
theorem bin_quo' {X : Ctx} {t : TypeId} {k : IntKind} {a b : Int} (hb : b ≠ 0) : bin X .quo t (.int k a) (.int k b) = some (.int k (wrapF k (a.tdiv b))) := by simp [bin, intOp, hb]

theorem pow_pos256 (k : Nat) : (0 : Int) < 256 ^ k := Int.pow_pos (by omega)

theorem c82 {n : Nat} {v : Int} (hn : 1 ≤ n ∧ n ≤ 8) (hv : 0 ≤ v ∧ v < 256 ^ n) (h64 : v < 18446744073709551616) :
    C (Z ext) 82 [.int .u64 v, .int .i64 n] H fun r H' => r = .tuple #[.slice (some ⟨H.next, 0, none⟩) n n, .int .i64 0] ∧ H'.next = H.next + 1 ∧ H'.get H.next = some (.cells (B8 (be n v)) 5) ∧ Ext H H' := by
  refine C_all fun Q hQ => ?_
  apply w82_ok rfl
  simp only [w82, bin_lss, bin_gtr, Ok_some, Br_dec]
  refine ⟨fun h => absurd h (by omega), fun _ => ⟨fun h => absurd h (by omega), fun _ => ?_⟩⟩
  rw [make29 (by omega) (by omega)]
  simp only [Ok2_some, Int.toNat_natCast, bin_sub, Ok_some]
  rw [wrap_i64 (by omega)]
  intro P hP
  refine loop_up n (fun i vs H' => vs = [.int .u64 (v / 256 ^ i), .int .i64 ((n : Int) - 1 - i)] ∧ H'.next = H.next + 1 ∧ H'.get H.next = some (.cells (laidD n (n - i) v) 5) ∧ Ext H H') ?_ ?_ (Nat.zero_le n) ⟨by simp, by simp, by rw [Nat.sub_zero, laidD_all]; simp, .alloc _ _ _⟩
  · rintro i _ H1 hi ⟨rfl, n1, g1, E1⟩ k
    refine hP _ _ _ ?_
    have hp := pow_pos256 i
    have hq : 0 ≤ v / 256 ^ i := Int.ediv_nonneg hv.1 (Int.le_of_lt hp)
    have hq2 : v / 256 ^ i ≤ v := Int.ediv_le_self _ hv.1
    simp only [bin_geq, Ok_some, Br_dec]
    refine ⟨fun _ => ?_, fun h => absurd (by omega) h⟩
    rw [bin_rem' (by omega), Int.tmod_eq_emod_of_nonneg hq]
    simp only [Ok_some, conv_28_5, Ok2_some, IA_slice]
    refine ⟨by omega, ?_⟩
    have hb : wrapF .u8 (v / 256 ^ i % 256) = byteAt n v (n - i - 1) := by
      rw [wrap_u8 (by omega)]
      simp only [byteAt]
      rw [show n - 1 - (n - i - 1) = i by omega]
    have e2 : 0 + ((n : Int) - 1 - i).toNat * 1 = n - i - 1 := by omega
    rw [hb, e2]
    simp only [St_ptr, cellsOf_int, List.length_singleton, true_and]
    have hs := laidD_step (n := n) (i := n - i - 1) (by omega) v
    rw [show n - i - 1 + 1 = n - i by omega] at hs
    rw [wrN_own g1 (by simp), hs]
    simp only [Option.map_some, Ok_some]
    rw [bin_quo' (by omega), Int.tdiv_eq_ediv_of_nonneg hq]
    simp only [Ok_some, bin_sub]
    rw [wrap_u64 (by omega), wrap_i64 (by omega)]
    refine k _ _ ⟨?_, by simpa using n1, by rw [show n - (i + 1) = n - i - 1 by omega]; simp, E1.set' _ (by omega)⟩
    rw [Int.pow_succ, Int.ediv_ediv_of_nonneg (Int.le_of_lt hp)]
    simp
    omega
  · rintro _ H1 ⟨rfl, n1, g1, E1⟩
    refine hP _ _ _ ?_
    simp only [bin_geq, Ok_some, Br_dec, bin_gtr]
    refine ⟨fun h => absurd h (by omega), fun _ => ⟨fun h => absurd h ?_, fun _ => hQ _ _ ⟨rfl, n1, by rw [g1, Nat.sub_self, laidD_zero], E1⟩⟩⟩
    rw [Int.ediv_eq_zero_of_lt hv.1 hv.2]
    omega

/-- A number is laid behind bytes. -/
theorem c69 {s : Value} {bs : List Int} {n : Nat} {v : Int} (hs : Own H s 1 bs.length (B8 bs) 5) (hn : 1 ≤ n ∧ n ≤ 8) (hv : 0 ≤ v ∧ v < 256 ^ n) (h64 : v < 18446744073709551616) (hl : bs.length ≤ 10000) :
    C (Z ext) 69 [s, .int .u64 v, .int .i64 n] H fun r H' => Own H' r 1 (bs ++ be n v).length (B8 (bs ++ be n v)) 5 ∧ (∀ b, ob r = some b → H.next ≤ b) ∧ Kp (fun b => ob s = some b) H H' := by
  refine C_all fun Q hQ => ?_
  apply w69_ok rfl
  simp only [w69]
  refine C_mono (c82 hn hv h64) ?_
  rintro _ H1 ⟨rfl, n1, g1, E1⟩
  simp only [extract_mk, getN_zero, getN_succ, Ok_some]
  obtain ⟨v', H2, e2, o2, k2, hob⟩ := app29 (ext := ext) (hs.kp E1 (fun _ _ => id)) (x := .slice (some ⟨H.next, 0, none⟩) n n) (xs := be n v) ⟨_, _, by rw [be_length]⟩
    (by rw [cellsAt_own g1 (by simp), be_length, List.drop_zero, List.take_of_length_le (by simp)]) (by simp; omega)
  rw [e2, Ok2_some]
  refine hQ _ _ ⟨by rw [List.length_append]; exact o2, fun b hb => ?_, (E1.mono fun _ _ h => h.elim).then k2 fun _ _ h => h⟩
  rcases hob with ⟨-, -, -, h0⟩ | ⟨h1, -⟩
  · simp at h0; omega
  · rw [h1] at hb; cases hb; omega

theorem c68 (m : Int) : C (Z ext) 68 [.int .u64 m] H fun r H' => r = .bool (decide (m < 281474976710656)) ∧ H = H' := by
  apply w68_ok rfl
  simp only [w68, bin_lss, Ok_some, and_self]

/-- A frame's bytes, by the document. -/
theorem c57 {to fr kind : Int} {bs : List Int} {v : Value} (h1 : 0 ≤ to ∧ to < 281474976710656) (h2 : 0 ≤ fr ∧ fr < 281474976710656) (h3 : 1536 ≤ kind ∧ kind < 65536) (hv : BAt ext H v bs) (hl : bs.length ≤ 1500) :
    C (Z ext) 57 [.agg ⟨[.int .u64 to, .int .u64 fr, .int .u16 kind, v]⟩] H fun r H' => ∃ f, r = .tuple #[f, .int .i64 0] ∧ Fr H H' f (frameB to fr kind bs) ∧ Ext H H' := by
  refine C_all fun Q hQ => ?_
  obtain ⟨p, c, rfl⟩ := hv.shape
  apply w57_ok rfl
  simp only [w57, Al_eq, cellsOf_agg, FA_ptr, Ld1_ptr, rd1_own (Heap.get_alloc_self _ _), getN_zero, Nat.zero_add, Ok_some]
  have E1 : Ext H (H.alloc (.cells [.int .u64 to, .int .u64 fr, .int .u16 kind, .slice p bs.length c] 78)) := .alloc _ _ _
  have g1 : (H.alloc (.cells [.int .u64 to, .int .u64 fr, .int .u16 kind, .slice p bs.length c] 78)).get H.next = some (.cells [.int .u64 to, .int .u64 fr, .int .u16 kind, .slice p bs.length c] 78) := by simp
  have n1 : (H.alloc (.cells [.int .u64 to, .int .u64 fr, .int .u16 kind, .slice p bs.length c] 78)).next = H.next + 1 := by simp
  generalize H.alloc (.cells [.int .u64 to, .int .u64 fr, .int .u16 kind, .slice p bs.length c] 78) = H1 at E1 g1 n1 ⊢
  refine C_mono (c68 to) ?_
  rintro _ _ ⟨rfl, rfl⟩
  rw [decide_eq_true h1.2]
  simp only [un_not, Ok_some, Bool.not_true, Br_false, rd1_own g1, getN_zero, getN_succ]
  refine C_mono (c68 fr) ?_
  rintro _ _ ⟨rfl, rfl⟩
  rw [decide_eq_true h2.2]
  simp only [un_not, Ok_some, Bool.not_true, Br_false, rd1_own g1, getN_zero, getN_succ, bin_lss, Br_dec]
  refine ⟨fun h => absurd h (by omega), fun _ => ?_⟩
  simp only [rd1_own g1, getN_zero, getN_succ, Ok_some, len_29, Ok2_some, bin_gtr, Br_dec]
  refine ⟨fun h => absurd h (by omega), fun _ => ?_⟩
  have r6 : ((6 : Nat) : Int) = 6 := rfl
  have r2 : ((2 : Nat) : Int) = 2 := rfl
  refine C_mono (c69 (n := 6) (bs := []) (Own.nil _ none 1 5) (by omega) h1 (by omega) (by simp)) ?_
  rintro s2 H2 ⟨o2, f2, k2⟩
  have E2 : Ext H1 H2 := k2.mono fun b _ hs => by simp [ob] at hs
  have g2 := (E2.get' (b := H.next) (by omega)).trans g1
  simp only [rd1_own g2, getN_zero, getN_succ, Ok_some]
  refine C_mono (c69 (n := 6) o2 (by omega) h2 (by omega) (by simp)) ?_
  rintro s3 H3 ⟨o3, f3, k3⟩
  have E3 : Ext H1 H3 := E2.then k3 fun b hb hs => by have := f2 b hs; omega
  have g3 := (E3.get' (b := H.next) (by omega)).trans g1
  have hle2 := E2.le
  simp only [rd1_own g3, getN_zero, getN_succ, Ok_some, conv_76_28, Ok2_some]
  rw [wrap_u64 (by omega)]
  refine C_mono (c69 (n := 2) o3 (by omega) (by omega) (by omega) (by simp)) ?_
  rintro s4 H4 ⟨o4, f4, k4⟩
  have hle3 := E3.le
  have E4 : Ext H1 H4 := E3.then k4 fun b hb hs => by have := f3 b hs; omega
  have g4 := (E4.get' (b := H.next) (by omega)).trans g1
  simp only [rd1_own g4, getN_zero, getN_succ, Ok_some]
  obtain ⟨v5, H5, e5, o5, k5, hob⟩ := app29 (ext := ext) o4 (x := .slice p bs.length c) (xs := bs) ⟨_, _, rfl⟩ (hv.up (E1.trans E4)).cells (by simp; omega)
  rw [e5, Ok2_some]
  have hle4 := E4.le
  have hle1 := E1.le
  refine hQ _ _ ⟨v5, rfl, Own.fr (bs := frameB to fr kind bs) ?_ ?_ ?_, (E1.trans E4).then k5 fun b hb hs => by have := f4 b hs; omega⟩
  · have hcat : (([] ++ be 6 to) ++ be 6 fr) ++ be 2 kind ++ bs = frameB to fr kind bs := by simp [frameB]
    have hlen : ((([] ++ be 6 to) ++ be 6 fr) ++ be 2 kind).length + bs.length = (frameB to fr kind bs).length := by rw [← hcat]; exact (List.length_append).symm
    rw [hlen, hcat] at o5
    exact o5
  · intro h
    have := congrArg List.length h
    simp [frameB] at this
  · intro b hb
    rcases hob with ⟨h1, -⟩ | ⟨h1, -⟩
    · have := f4 b (by rw [← h1]; exact hb)
      omega
    · rw [h1] at hb; cases hb; omega

/-- Appending to bytes that are full. -/
theorem app29f {b n : Nat} {bs xs : List Int} {x : Value} (hg : H.get b = some (.cells (B8 bs) 5)) (hn : bs.length = n) (hx : ∃ p c, x = .slice p xs.length c) (hc : cellsAt (Z ext) H xs.length x = some (B8 xs)) (h0 : xs.length ≠ 0) (hr : n + xs.length ≤ 1099511627776) :
    builtin (Z ext) H .append [29, 29] [.slice (some ⟨b, 0, none⟩) n n, x] = some (.slice (some ⟨H.next, 0, none⟩) (n + xs.length) (unk + 1), H.alloc (.cells (B8 (bs ++ xs)) 5)) := by
  obtain ⟨p, c, rfl⟩ := hx
  have hu : unk = 18446744073709551616 := rfl
  have e1 : Nat.ble unk n = false := by
    cases hb : Nat.ble unk n with
    | false => rfl
    | true => have := Nat.le_of_ble_eq_true hb; omega
  have e2 : Nat.ble (n + xs.length) n = false := by
    cases hb : Nat.ble (n + xs.length) n with
    | false => rfl
    | true => have := Nat.le_of_ble_eq_true hb; omega
  have e3 : roomOk (n + xs.length) n 1 = true := roomOk_of (by omega)
  have e4 : cellsAt (Z ext) H (n * 1) (.slice (some ⟨b, 0, none⟩) n n) = some (B8 bs) := by
    rw [Nat.mul_one, cellsAt_own hg (by simp; omega), List.drop_zero, List.take_of_length_le (by simp; omega)]
  have e5 : srcCells (Z ext) H 1 xs.length (.slice p xs.length c) = some (B8 xs) := by simpa [srcCells] using hc
  have f1 : Nat.blt 0 1 = true := rfl
  have f2 : Nat.beq [Value.int .u8 0].length 1 = true := rfl
  simp only [builtin, append, tt_29, Tab.i29, tt_5, Tab.i5, lenOf, f1, f2, Bool.and_self, cond_true, e5, e1, cond_false, appendK, e2, e3, e4, B8_append]

theorem c69f {b : Nat} {bs : List Int} {n : Nat} {v : Int} (hg : H.get b = some (.cells (B8 bs) 5)) (hb : b < H.next) (hn : 1 ≤ n ∧ n ≤ 8) (hv : 0 ≤ v ∧ v < 256 ^ n) (h64 : v < 18446744073709551616) (hl : bs.length ≤ 10000) :
    C (Z ext) 69 [.slice (some ⟨b, 0, none⟩) bs.length bs.length, .int .u64 v, .int .i64 n] H fun r H' => Own H' r 1 (bs ++ be n v).length (B8 (bs ++ be n v)) 5 ∧ (∀ b, ob r = some b → H.next ≤ b) ∧ Ext H H' := by
  refine C_all fun Q hQ => ?_
  apply w69_ok rfl
  simp only [w69]
  refine C_mono (c82 hn hv h64) ?_
  rintro _ H1 ⟨rfl, n1, g1, E1⟩
  simp only [extract_mk, getN_zero, getN_succ, Ok_some]
  have hg1 := (E1.get' hb).trans hg
  rw [app29f (ext := ext) (xs := be n v) (x := .slice (some ⟨H.next, 0, none⟩) n n) hg1 rfl ⟨_, _, by rw [be_length]⟩ (by rw [cellsAt_own g1 (by simp), be_length, List.drop_zero, List.take_of_length_le (by simp)]) (by simp; omega) (by simp; omega)]
  rw [Ok2_some]
  refine hQ _ _ ⟨⟨by simp, .inr ⟨H1.next, by rw [List.length_append], by simp, by simp⟩⟩, fun c hc => ?_, E1.alloc' _⟩
  simp [ob] at hc
  omega

/-- A question's bytes, or an answer's, by the document. -/
theorem c59 {o fm fi tm ti : Int} (h0 : 1 ≤ o ∧ o ≤ 2) (h1 : 0 ≤ fm ∧ fm < 281474976710656) (h2 : 0 ≤ fi ∧ fi < 4294967296) (h3 : 0 ≤ tm ∧ tm < 281474976710656) (h4 : 0 ≤ ti ∧ ti < 4294967296) :
    C (Z ext) 59 [.agg ⟨[.int .i64 o, .int .u64 fm, .int .u32 fi, .int .u64 tm, .int .u32 ti]⟩] H fun r H' => ∃ f, r = .tuple #[f, .int .i64 0] ∧ Fr H H' f (arpB o fm fi tm ti) ∧ Ext H H' := by
  refine C_all fun Q hQ => ?_
  apply w59_ok rfl
  simp only [w59, Al_eq, cellsOf_agg, FA_ptr, Ld1_ptr, rd1_own (Heap.get_alloc_self _ _), getN_zero, getN_succ, Nat.zero_add, Ok_some]
  have E1 : Ext H (H.alloc (.cells [.int .i64 o, .int .u64 fm, .int .u32 fi, .int .u64 tm, .int .u32 ti] 31)) := .alloc _ _ _
  have g1 : (H.alloc (.cells [.int .i64 o, .int .u64 fm, .int .u32 fi, .int .u64 tm, .int .u32 ti] 31)).get H.next = some (.cells [.int .i64 o, .int .u64 fm, .int .u32 fi, .int .u64 tm, .int .u32 ti] 31) := by simp
  have n1 : (H.alloc (.cells [.int .i64 o, .int .u64 fm, .int .u32 fi, .int .u64 tm, .int .u32 ti] 31)).next = H.next + 1 := by simp
  generalize H.alloc (.cells [.int .i64 o, .int .u64 fm, .int .u32 fi, .int .u64 tm, .int .u32 ti] 31) = H1 at E1 g1 n1 ⊢
  have main : C (Tab.ctx ext spA) 68 [.int .u64 fm] H1 fun v16_21 H_22 =>
      Ok (un .not v16_21) fun v17_23 =>
      Br v17_23
      (Q (.tuple #[(.slice none 0 0), (.int .i64 2)]) H_22)
      (Ok (rd1 (Tab.ctx ext spA) H_22 ⟨H.next, 3, none⟩) fun v21_30 =>
      C (Tab.ctx ext spA) 68 [v21_30] H_22 fun v22_31 H_32 =>
      Ok (un .not v22_31) fun v23_33 =>
      Br v23_33
      (Q (.tuple #[(.slice none 0 0), (.int .i64 2)]) H_32)
      (Ok (rd1 (Tab.ctx ext spA) H_32 ⟨H.next, 0, none⟩) fun v26_38 =>
      Ok2 (conv (Tab.ctx ext spA) H_32 3 5 v26_38) fun v27_39 H_40 =>
      Ok2 (buildSlice (Tab.ctx ext spA) H_40 29 8 [(0, (.int .u8 0)), (1, (.int .u8 1)), (2, (.int .u8 8)), (3, (.int .u8 0)), (4, (.int .u8 6)), (5, (.int .u8 4)), (6, (.int .u8 0)), (7, v27_39)]) fun v28_41 H_42 =>
      Ok (rd1 (Tab.ctx ext spA) H_42 ⟨H.next, 1, none⟩) fun v31_46 =>
      C (Tab.ctx ext spA) 69 [v28_41, v31_46, (.int .i64 6)] H_42 fun v32_47 H_48 =>
      Ok (rd1 (Tab.ctx ext spA) H_48 ⟨H.next, 2, none⟩) fun v35_52 =>
      Ok2 (conv (Tab.ctx ext spA) H_48 22 28 v35_52) fun v36_53 H_54 =>
      C (Tab.ctx ext spA) 69 [v32_47, v36_53, (.int .i64 4)] H_54 fun v37_55 H_56 =>
      Ok (rd1 (Tab.ctx ext spA) H_56 ⟨H.next, 3, none⟩) fun v40_60 =>
      C (Tab.ctx ext spA) 69 [v37_55, v40_60, (.int .i64 6)] H_56 fun v41_61 H_62 =>
      Ok (rd1 (Tab.ctx ext spA) H_62 ⟨H.next, 4, none⟩) fun v44_66 =>
      Ok2 (conv (Tab.ctx ext spA) H_62 22 28 v44_66) fun v45_67 H_68 =>
      C (Tab.ctx ext spA) 69 [v41_61, v45_67, (.int .i64 4)] H_68 fun v46_69 H_70 =>
      Q (.tuple #[v46_69, (.int .i64 0)]) H_70)) := by
    refine C_mono (c68 fm) ?_
    rintro _ _ ⟨rfl, rfl⟩
    rw [decide_eq_true h1.2]
    simp only [un_not, Ok_some, Bool.not_true, Br_false, rd1_own g1, getN_zero, getN_succ]
    refine C_mono (c68 tm) ?_
    rintro _ _ ⟨rfl, rfl⟩
    rw [decide_eq_true h3.2]
    simp only [un_not, Ok_some, Bool.not_true, Br_false, rd1_own g1, getN_zero, getN_succ, conv_3_5, Ok2_some, bsl_29_8, one_int]
    rw [wrap_u8 (n := o) (by omega)]
    have E2 : Ext H1 (H1.alloc (.cells [.int .u8 0, .int .u8 1, .int .u8 8, .int .u8 0, .int .u8 6, .int .u8 4, .int .u8 0, .int .u8 o] 5)) := .alloc _ _ _
    have gb : (H1.alloc (.cells [.int .u8 0, .int .u8 1, .int .u8 8, .int .u8 0, .int .u8 6, .int .u8 4, .int .u8 0, .int .u8 o] 5)).get H1.next = some (.cells (B8 [0, 1, 8, 0, 6, 4, 0, o]) 5) := by
      have := Heap.get_alloc_self H1 (.cells [.int .u8 0, .int .u8 1, .int .u8 8, .int .u8 0, .int .u8 6, .int .u8 4, .int .u8 0, .int .u8 o] 5)
      exact this
    have n2 : (H1.alloc (.cells [.int .u8 0, .int .u8 1, .int .u8 8, .int .u8 0, .int .u8 6, .int .u8 4, .int .u8 0, .int .u8 o] 5)).next = H1.next + 1 := by simp
    generalize H1.alloc (.cells [.int .u8 0, .int .u8 1, .int .u8 8, .int .u8 0, .int .u8 6, .int .u8 4, .int .u8 0, .int .u8 o] 5) = H2 at E2 gb n2 ⊢
    have g2 := (E2.get' (b := H.next) (by omega)).trans g1
    simp only [rd1_own g2, getN_zero, getN_succ, Ok_some]
    refine C_mono (c69f (n := 6) gb (by omega) (by omega) h1 (by omega) (by simp)) ?_
    rintro s3 H3 ⟨o3, f3, E3⟩
    have E13 := E2.trans E3
    have g3 := (E13.get' (b := H.next) (by omega)).trans g1
    have hle3 := E3.le
    simp only [rd1_own g3, getN_zero, getN_succ, Ok_some, conv_22_28, Ok2_some]
    rw [wrap_u64 (n := fi) (by omega)]
    refine C_mono (c69 (n := 4) o3 (by omega) (by omega) (by omega) (by simp)) ?_
    rintro s4 H4 ⟨o4, f4, k4⟩
    have E14 : Ext H1 H4 := E13.then k4 fun b hb hs => by have := f3 b hs; omega
    have g4 := (E14.get' (b := H.next) (by omega)).trans g1
    have hle4 := E14.le
    have hle4' := k4.le
    simp only [rd1_own g4, getN_zero, getN_succ, Ok_some]
    refine C_mono (c69 (n := 6) o4 (by omega) h3 (by omega) (by simp)) ?_
    rintro s5 H5 ⟨o5, f5, k5⟩
    have E15 : Ext H1 H5 := E14.then k5 fun b hb hs => by have := f4 b hs; omega
    have g5 := (E15.get' (b := H.next) (by omega)).trans g1
    have hle5' := k5.le
    simp only [rd1_own g5, getN_zero, getN_succ, Ok_some, conv_22_28, Ok2_some]
    rw [wrap_u64 (n := ti) (by omega)]
    refine C_mono (c69 (n := 4) o5 (by omega) (by omega) (by omega) (by simp)) ?_
    rintro s6 H6 ⟨o6, f6, k6⟩
    have E16 : Ext H1 H6 := E15.then k6 fun b hb hs => by have := f5 b hs; omega
    have hcat : (((([0, 1, 8, 0, 6, 4, 0, o] ++ be 6 fm) ++ be 4 fi) ++ be 6 tm) ++ be 4 ti) = arpB o fm fi tm ti := by
      have hh : be 6 4429186564 ++ be 2 o = [0, 1, 8, 0, 6, 4, 0, o] := by
        have e1 : be 6 4429186564 = [0, 1, 8, 0, 6, 4] := by decide
        have e2 : be 2 o = [0, o] := by
          have p1 : byteAt 2 o 0 = 0 := by
            show o / 256 ^ 1 % 256 = 0
            omega
          have p2 : byteAt 2 o 1 = o := by
            show o / 256 ^ 0 % 256 = o
            omega
          show [byteAt 2 o 0, byteAt 2 o 1] = _
          rw [p1, p2]
        rw [e1, e2]; rfl
      simp only [arpB, hh]
    rw [hcat] at o6
    refine hQ _ _ ⟨s6, rfl, Own.fr o6 (fun h => by have := congrArg List.length h; rw [arpB_len] at this; simp at this) (fun b hb => ?_), E1.trans E16⟩
    have := f6 b hb
    omega
  simp only [bin_neq, Ok_some, Br_ndec, rd1_own g1, getN_zero, getN_succ] at main ⊢
  refine ⟨fun _ => ⟨fun h => absurd (by omega) h, fun _ => main⟩, fun _ => main⟩

section
variable {c : Nat} {mac ip now gone : Int} {lv : Value} (hc : H.get c = some (.cells [.int .u64 mac, .int .u32 ip, .int .i64 now, lv, .int .i64 gone] 59))
include hc

/-- A body's frame, by the document. -/
theorem c46 (hm : 0 ≤ mac ∧ mac < 281474976710655) {to : Int} {v : Value} {bs : List Int} (ht : 0 ≤ to ∧ to < 281474976710656) (hv : BAt ext H v bs) (hl : bs.length ≤ 1500) :
    C (Z ext) 46 [.pointer (some ⟨c, 0, none⟩), .int .u64 to, v] H fun f H' => Fr H H' f (frameB to mac 2048 bs) ∧ Ext H H' := by
  refine C_all fun Q hQ => ?_
  obtain ⟨p, cc, rfl⟩ := hv.shape
  apply w46_ok rfl
  simp only [w46, nilCheck_ptr, Ok_some, FA_ptr, Ld1_ptr, rd1_own hc, getN_zero, Nat.zero_add, build_78_0123, one_int, one_slice]
  refine C_mono (c57 ht ⟨hm.1, by omega⟩ (by omega) hv hl) ?_
  rintro _ H' ⟨f, rfl, h1, h2⟩
  simp only [extract_mk, getN_zero, getN_succ, Ok_some]
  exact hQ _ _ ⟨h1, h2⟩

/-- A frame of a question, or of an answer, by the document. -/
theorem c49 (hlt : c < H.next) (hm : 0 ≤ mac ∧ mac < 281474976710655) (hi : 0 ≤ ip ∧ ip < 4294967296) {o to m i : Int} (ho : 1 ≤ o ∧ o ≤ 2) (ht : 0 ≤ to ∧ to < 281474976710656) (hmm : 0 ≤ m ∧ m < 281474976710656) (hii : 0 ≤ i ∧ i < 4294967296) :
    C (Z ext) 49 [.pointer (some ⟨c, 0, none⟩), .int .i64 o, .int .u64 to, .int .u64 m, .int .u32 i] H fun f H' => Fr H H' f (frameB to mac 2054 (arpB o mac ip m i)) ∧ Ext H H' := by
  refine C_all fun Q hQ => ?_
  apply w49_ok rfl
  simp only [w49, nilCheck_ptr, Ok_some, FA_ptr, Ld1_ptr, rd1_own hc, getN_zero, getN_succ, Nat.zero_add, build_31_01234, one_int]
  refine C_mono (c59 ho ⟨hm.1, by omega⟩ hi hmm hii) ?_
  rintro _ H1 ⟨f, rfl, f1, E1⟩
  have hc1 : H1.get c = _ := E1.get' hlt
  rw [hc] at hc1
  have hb1 := f1.bat (ext := ext) (arpB_byt _ _ _ _ _)
  obtain ⟨b, hfe, -⟩ := f1
  simp only [extract_mk, getN_zero, getN_succ, Ok_some, rd1_own hc1]
  rw [build_78_0123 _ _ _ _ (by simp) (by simp) (by simp) (by rw [hfe]; simp)]
  simp only [Ok_some]
  refine C_mono (c57 ht ⟨hm.1, by omega⟩ (by omega) hb1 (by rw [arpB_len]; omega)) ?_
  rintro _ H2 ⟨g, rfl, f2, E2⟩
  simp only [extract_mk, getN_zero, getN_succ, Ok_some]
  exact hQ _ _ ⟨f2.down E1.le, E1.trans E2⟩
end

end Ev
end Go.Proofs.Ytglkgmomnbdkoaa

/- The document's cache as it lies in memory, and its small functions: wrong, place, drop. -/
namespace Go.Proofs.Ytglkgmomnbdkoaa
namespace Ev
variable {ext : Nat → Nat → Option Value} {H : Heap}

/-! entries, one behind the other -/
def entC (x : (Int × En) × Value) : List Value := [.int .u32 x.1.1, .bool x.1.2.known, .int .u64 x.1.2.mac, .int .i64 x.1.2.at_, .int .i64 x.1.2.tries, x.2]
def entsC (es : List ((Int × En) × Value)) : List Value := es.flatMap entC

theorem entsC_len (es : List ((Int × En) × Value)) : (entsC es).length = es.length * 6 := by
  induction es with
  | nil => rfl
  | cons a l ih => simp [entsC, entC] at ih ⊢; omega
theorem entsC_append (a b : List ((Int × En) × Value)) : entsC (a ++ b) = entsC a ++ entsC b := by simp [entsC]
theorem entsC_take (es : List ((Int × En) × Value)) (k : Nat) (h : k ≤ es.length) : (entsC es).take (k * 6) = entsC (es.take k) := by
  conv => lhs; rw [← List.take_append_drop k es, entsC_append]
  rw [List.take_left' (by rw [entsC_len, List.length_take]; omega)]
theorem entsC_drop (es : List ((Int × En) × Value)) (k : Nat) (h : k ≤ es.length) : (entsC es).drop (k * 6) = entsC (es.drop k) := by
  conv => lhs; rw [← List.take_append_drop k es, entsC_append]
  rw [List.drop_left' (by rw [entsC_len, List.length_take]; omega)]
theorem entsC_cut {es : List ((Int × En) × Value)} {i : Nat} {x : (Int × En) × Value} (h : es[i]? = some x) : ((entsC es).drop (i * 6)).take 6 = entC x := by
  obtain ⟨hi, rfl⟩ := List.getElem?_eq_some_iff.1 h
  rw [entsC_drop es i (by omega), List.drop_eq_getElem_cons hi]
  simp only [entsC, List.flatMap_cons]
  exact List.take_left' rfl
theorem entsC_get {es : List ((Int × En) × Value)} {i j : Nat} {x : (Int × En) × Value} (h : es[i]? = some x) (hj : j < 6) : (entsC es)[i * 6 + j]? = (entC x)[j]? := by
  rw [← entsC_cut h, List.getElem?_take_of_lt hj, List.getElem?_drop]
theorem getN_ents {es : List ((Int × En) × Value)} {i : Nat} {x : (Int × En) × Value} (h : es[i]? = some x) {j : Nat} (hj : j < 6) : getN (entsC es) (i * 6 + j) = (entC x)[j]? := by
  rw [getN_eq, entsC_get h hj]
theorem entsC_one {es : List ((Int × En) × Value)} (h : ∀ x ∈ es, one x.2 = true) : (entsC es).all one = true := by
  rw [List.all_eq_true]
  intro v hv
  obtain ⟨x, hx, hv⟩ := List.mem_flatMap.1 hv
  simp only [entC, List.mem_cons, List.not_mem_nil, or_false] at hv
  rcases hv with rfl | rfl | rfl | rfl | rfl | rfl <;> first | simp | exact h x hx

/-- Appending entries. -/
theorem app57 {s x : Value} {n nx : Nat} {vs xs : List Value} (hs : Own H s 6 n vs 86) (hx : ∃ p c, x = .slice p nx c) (hc : cellsAt (Z ext) H (nx * 6) x = some xs) (hone : xs.all one = true) (hl : xs.length = nx * 6) (hn : n + nx ≤ 1000000) :
    ∃ v' H', builtin (Z ext) H .append [57, 57] [s, x] = some (v', H') ∧ Own H' v' 6 (n + nx) (vs ++ xs) 86 ∧ Kp (fun b => ob s = some b) H H' ∧
      ((ob v' = ob s ∧ H' = H ∧ v' = s ∧ nx = 0) ∨ (ob v' = some H.next ∧ H'.next = H.next + 1 ∧ nx ≠ 0 ∧ v' = .slice (some ⟨H.next, 0, none⟩) (n + nx) (unk + 6))) := by
  obtain ⟨p, c, rfl⟩ := hx
  obtain ⟨v', H', h1, h2, h3, h4⟩ := append_own (X := Z ext) (st := 57) (xt := 57) (i := Tab.i57) (ix := Tab.i57) (ie := Tab.i86) (z := 6) (nx := nx) (xs := xs) (x := .slice p nx c) tt_57 rfl tt_57 (by intro k; simp [Tab.i57]) tt_86 rfl (by omega) (by decide) rfl hs rfl
    (by simpa [srcCells] using hc) hone (by omega) (by simp only [Tab.i86]; omega)
  exact ⟨v', H', by simpa [builtin] using h1, h2, h3, h4⟩

theorem slice57 {v : Value} {n k : Nat} {cs : List Value} (h : Own H v 6 n cs 86) (hk : k ≤ n) (hn : n ≤ 1000000) :
    (∃ p c, slice (Z ext) 57 v none (some (.int .i64 k)) none = some (.slice p k c) ∧ cellsAt (Z ext) H (k * 6) (.slice p k c) = some (cs.take (k * 6))) ∧
    (∃ p c, slice (Z ext) 57 v (some (.int .i64 k)) none none = some (.slice p (n - k) c) ∧ cellsAt (Z ext) H ((n - k) * 6) (.slice p (n - k) c) = some (cs.drop (k * 6))) := by
  obtain ⟨hl, h⟩ := h
  rcases h with ⟨rfl, p, rfl⟩ | ⟨b, rfl, hb, hg⟩
  · have : k = 0 := by omega
    subst this
    have : cs = [] := by simpa using hl
    subst this
    cases p with
    | none => exact ⟨⟨none, 0, by simp [slice, tt_57, Tab.i57, tt_86, bound], by simp [cellsAt]⟩, ⟨none, 0, by simp [slice, tt_57, Tab.i57, tt_86, bound], by simp [cellsAt]⟩⟩
    | some a =>
      have hu : Nat.ble unk 0 = false := rfl
      exact ⟨⟨some a, 0, by simp [slice, tt_57, Tab.i57, tt_86, bound, hu, moved], by simp [cellsAt]⟩, ⟨some a, 0, by simp [slice, tt_57, Tab.i57, tt_86, bound, hu, moved], by simp [cellsAt]⟩⟩
  · have hu : Nat.ble unk (unk + 6) = true := Nat.ble_eq_true_of_le (by omega)
    have h2 : Nat.beq (unk + 6) (unk + Tab.i86.size) = true := rfl
    have hb1 : bound n (some (.int .i64 k)) n = some k := by simp [bound]; omega
    have hb2 : bound n (some (.int .i64 k)) 0 = some k := by simp [bound]; omega
    have hb3 : bound k none 0 = some 0 := rfl
    have hb4 : bound n none n = some n := rfl
    have h6 : Tab.i86.size = 6 := rfl
    have h7 : Nat.beq (unk + 6) (unk + 6) = true := rfl
    refine ⟨⟨some ⟨b, 0, none⟩, unk + 6, ?_, ?_⟩, ⟨some ⟨b, k * 6, none⟩, unk + 6, ?_, ?_⟩⟩
    · simp only [slice, tt_57, Tab.i57, tt_86, hu, h2, cond_true, hb1, hb3, addA, Nat.zero_mul, Nat.add_zero, Nat.sub_zero]
    · rw [cellsAt_own hg (by omega), List.drop_zero]
    · simp only [slice, tt_57, Tab.i57, tt_86, hu, h2, cond_true, hb4, hb2, addA, h6, h7, cond_true, Nat.zero_add]
    · rw [cellsAt_own hg (by omega), List.take_of_length_le (by simp; omega)]

/-- The document's cache as it lies. -/
structure RA (ext : Nat → Nat → Option Value) (H : Heap) (fp : Nat → Prop) (c : Nat) (R : Ca) (lv : Value) (es : List ((Int × En) × Value)) : Prop where
  cell : H.get c = some (.cells [.int .u64 R.mac, .int .u32 R.ip, .int .i64 R.last, lv, .int .i64 R.lost] 59)
  own : Own H lv 6 es.length (entsC es) 86
  ob : ∀ b, Ev.ob lv = some b → fp b ∧ b ≠ c
  all : es.map (·.1) = R.all
  wt : ∀ x ∈ es, WAt ext H (fun b => fp b ∧ b ≠ c) x.2 x.1.2.wait
  clt : c < H.next
  fc : fp c
  lt : ∀ b, fp b → b < H.next

def RAt (ext : Nat → Nat → Option Value) (H : Heap) (fp : Nat → Prop) (c : Nat) (R : Ca) : Prop := ∃ lv es, RA ext H fp c R lv es

variable {fp : Nat → Prop} {c : Nat} {R : Ca} {lv : Value} {es : List ((Int × En) × Value)}

theorem RA.kp {S : Nat → Prop} {H' : Heap} (h : RA ext H fp c R lv es) (hk : Kp S H H') (hS : ∀ b, fp b → ¬ S b) : RA ext H' fp c R lv es :=
  ⟨by rw [hk.get c h.clt (hS c h.fc), h.cell], h.own.kp hk fun b hb => hS b (h.ob b hb).1, h.ob, h.all, fun x hx => (h.wt x hx).kp hk (fun b hb => hS b hb.1) (fun _ h => h), Nat.lt_of_lt_of_le h.clt hk.le, h.fc,
    fun b hb => Nat.lt_of_lt_of_le (h.lt b hb) hk.le⟩

theorem RA.more {fp' : Nat → Prop} (h : RA ext H fp c R lv es) (hf : ∀ b, fp b → fp' b) (hl : ∀ b, fp' b → b < H.next) : RA ext H fp' c R lv es :=
  ⟨h.cell, h.own, fun b hb => ⟨hf b (h.ob b hb).1, (h.ob b hb).2⟩, h.all, fun x hx => (h.wt x hx).kp (.refl (fun _ => False) H) (fun _ _ => id) (fun b hb => ⟨hf b hb.1, hb.2⟩), h.clt, hf c h.fc, hl⟩

/-- Its own cells change. -/
theorem RA.cells {H' : Heap} {now gone : Int} (h : RA ext H fp c R lv es) (hk : Kp (fun b => b = c) H H') (hg : H'.get c = some (.cells [.int .u64 R.mac, .int .u32 R.ip, .int .i64 now, lv, .int .i64 gone] 59)) : RA ext H' fp c { R with last := now, lost := gone } lv es :=
  ⟨hg, h.own.kp hk fun b hb => (h.ob b hb).2, h.ob, h.all, fun x hx => (h.wt x hx).kp hk (fun b hb => hb.2) (fun _ h => h), Nat.lt_of_lt_of_le h.clt hk.le, h.fc, fun b hb => Nat.lt_of_lt_of_le (h.lt b hb) hk.le⟩

theorem RA.len (h : RA ext H fp c R lv es) : es.length = R.all.length := by rw [← h.all]; simp
theorem RA.get (h : RA ext H fp c R lv es) {i : Nat} {a : Int × En} (ha : R.all[i]? = some a) : ∃ wv, es[i]? = some (a, wv) ∧ WAt ext H (fun b => fp b ∧ b ≠ c) wv a.2.wait := by
  rw [← h.all, List.getElem?_map, Option.map_eq_some_iff] at ha
  obtain ⟨⟨x, wv⟩, hx, rfl⟩ := ha
  exact ⟨wv, hx, h.wt _ (List.mem_of_getElem? hx)⟩

/-- The list, behind its slice: it is not empty where one is read. -/
theorem RA.lv_ptr (h : RA ext H fp c R lv es) {i : Nat} {x : (Int × En) × Value} (hx : es[i]? = some x) : ∃ b, lv = .slice (some ⟨b, 0, none⟩) es.length (unk + 6) ∧ b < H.next ∧ H.get b = some (.cells (entsC es) 86) := by
  rcases h.own.2 with ⟨h0, -⟩ | h1
  · have : es = [] := List.eq_nil_of_length_eq_zero h0
    subst this
    simp at hx
  · exact h1

/-! wrong -/
theorem c44 (h : RA ext H fp c R lv es) (now : Int) :
    C (Z ext) 44 [.pointer (some ⟨c, 0, none⟩), .int .i64 now] H fun r H' => r = .int .i64 (bgn R now).1 ∧ RA ext H' fp c (bgn R now).2 lv es ∧ Kp (fun b => b = c) H H' ∧ H'.next = H.next := by
  refine C_all fun Q hQ => ?_
  apply w44_ok rfl
  simp only [w44, eql_45, Option.isNone_some, Ok_some, Br_false, bin_lss, bin_gtr, Br_dec, nilCheck_ptr, FA_ptr, Ld1_ptr, rd1_own h.cell, getN_zero, getN_succ, Nat.zero_add]
  refine ⟨fun h1 => ?_, fun h1 => ⟨fun h2 => ?_, fun h2 => ⟨fun h3 => ?_, fun h3 => ?_⟩⟩⟩
  · have e : bgn R now = (2, R) := by unfold bgn; rw [if_pos (.inl h1)]
    rw [e] at hQ; exact hQ _ _ ⟨rfl, h, .refl _ _, rfl⟩
  · have e : bgn R now = (2, R) := by unfold bgn; rw [if_pos (.inr h2)]
    rw [e] at hQ; exact hQ _ _ ⟨rfl, h, .refl _ _, rfl⟩
  · have e : bgn R now = (18, R) := by unfold bgn; rw [if_neg (by omega), if_pos h3]
    rw [e] at hQ; exact hQ _ _ ⟨rfl, h, .refl _ _, rfl⟩
  · have e : bgn R now = (0, { R with last := now }) := by unfold bgn; rw [if_neg (by omega), if_neg h3]
    rw [e] at hQ
    refine st_one' h.cell (by simp) (by simp) fun H' n' g' k' => hQ _ _ ⟨rfl, ?_, k', n'⟩
    exact h.cells k' g'

/-! place -/
def plc (k : Int) (L : List (Int × En)) : Nat := (L.takeWhile fun a => decide (a.1 < k)).length
def thr (k : Int) (L : List (Int × En)) : Bool := match L[plc k L]? with
  | some a => decide (a.1 = k)
  | none => false

theorem plc_lt {k : Int} : ∀ {L : List (Int × En)} {i : Nat}, i < plc k L → ∃ a, L[i]? = some a ∧ a.1 < k
  | [], i, h => by simp [plc] at h
  | a :: L, i, h => by
    by_cases ha : a.1 < k
    · cases i with
      | zero => exact ⟨a, rfl, ha⟩
      | succ i =>
        have : i < plc k L := by simpa [plc, ha] using h
        simpa using plc_lt this
    · simp [plc, ha] at h
theorem plc_le {k : Int} {L : List (Int × En)} : plc k L ≤ L.length := (List.takeWhile_sublist _).length_le
theorem plc_end {k : Int} : ∀ {L : List (Int × En)} {a : Int × En}, L[plc k L]? = some a → ¬ a.1 < k
  | [], a, h => by simp at h
  | b :: L, a, h => by
    by_cases hb : b.1 < k
    · have e : plc k (b :: L) = plc k L + 1 := by simp [plc, hb]
      rw [e, List.getElem?_cons_succ] at h
      exact plc_end h
    · have e : plc k (b :: L) = 0 := by simp [plc, hb]
      rw [e] at h
      simp at h
      subst h; exact hb

theorem c45 (h : RA ext H fp c R lv es) (k : Int) (hl : R.all.length ≤ 1000) :
    C (Z ext) 45 [.pointer (some ⟨c, 0, none⟩), .int .u32 k] H fun r H' => r = .tuple #[.int .i64 (plc k R.all), .bool (thr k R.all)] ∧ H = H' := by
  refine C_all fun Q hQ => ?_
  apply w45_ok rfl
  simp only [w45]
  intro P hP
  have hlen := h.len
  obtain ⟨lp, lc, hlv⟩ := h.own.len
  refine loop_up (plc k R.all) (fun i vs H' => vs = [.int .i64 i] ∧ H' = H) ?_ ?_ (Nat.zero_le _) ⟨rfl, rfl⟩
  · rintro i _ _ hi ⟨rfl, rfl⟩ K
    refine hP _ _ ?_
    obtain ⟨a, ha, hak⟩ := plc_lt hi
    obtain ⟨wv, hx, -⟩ := h.get ha
    obtain ⟨b, hb, -, hbg⟩ := h.lv_ptr hx
    have hple := plc_le (k := k) (L := R.all)
    have e1 : 0 + (i : Int).toNat * 6 + 0 = i * 6 + 0 := by omega
    simp only [nilCheck_ptr, Ok_some, FA_ptr, Ld1_ptr, rd1_own h.cell, getN_zero, getN_succ, Nat.zero_add, hb, len_57, Ok2_some, bin_lss, Br_dec, IA_slice]
    refine ⟨fun _ => ⟨by omega, ?_⟩, fun h => absurd (by omega) h⟩
    simp only [Nat.zero_add] at e1
    simp only [e1, rd1_own hbg, getN_ents hx (show 0 < 6 by omega), entC, List.getElem?_cons_zero, Ok_some, bin_lss, Br_dec, bin_add]
    refine ⟨fun _ => ?_, fun h => absurd hak h⟩
    rw [wrap_i64 (by omega)]
    exact K _ _ ⟨by simp, rfl⟩
  · rintro _ _ ⟨rfl, rfl⟩
    refine hP _ _ ?_
    cases hg : R.all[plc k R.all]? with
    | none =>
      have e : thr k R.all = false := by unfold thr; rw [hg]
      rw [List.getElem?_eq_none_iff] at hg
      simp only [nilCheck_ptr, Ok_some, FA_ptr, Ld1_ptr, rd1_own h.cell, getN_zero, getN_succ, Nat.zero_add, hlv, len_57, Ok2_some, bin_lss, Br_dec]
      refine ⟨fun h => absurd h (by omega), fun _ => ⟨fun h => absurd h (by omega), fun _ => ?_⟩⟩
      rw [e] at hQ
      exact hQ _ _ ⟨rfl, rfl⟩
    | some a =>
      have hnk := plc_end hg
      have e : thr k R.all = decide (a.1 = k) := by unfold thr; rw [hg]
      obtain ⟨wv, hx, -⟩ := h.get hg
      obtain ⟨b, hb, -, hbg⟩ := h.lv_ptr hx
      have hi := (List.getElem?_eq_some_iff.1 hg).1
      generalize plc k R.all = i at *
      have e1 : 0 + (i : Int).toNat * 6 + 0 = i * 6 + 0 := by omega
      simp only [nilCheck_ptr, Ok_some, FA_ptr, Ld1_ptr, rd1_own h.cell, getN_zero, getN_succ, Nat.zero_add, hb, len_57, Ok2_some, bin_lss, Br_dec, IA_slice]
      simp only [Nat.zero_add] at e1
      simp only [e1, rd1_own hbg, getN_ents hx (show 0 < 6 by omega), entC, List.getElem?_cons_zero, Ok_some, bin_lss, bin_eql, Br_dec, bin_add]
      have hii : (0 : Int) ≤ i ∧ (i : Int) < es.length := by omega
      refine ⟨fun _ => ⟨hii, ⟨fun h => absurd h hnk, fun _ => ⟨fun _ => ⟨hii, ?_⟩, fun h => absurd hii.2 h⟩⟩⟩, fun h => absurd hii.2 h⟩
      rw [e] at hQ
      exact hQ _ _ ⟨rfl, rfl⟩

end Ev
end Go.Proofs.Ytglkgmomnbdkoaa

/- The document's cache: drop, put, room. -/
namespace Go.Proofs.Ytglkgmomnbdkoaa
namespace Ev
variable {ext : Nat → Nat → Option Value} {H : Heap} {fp : Nat → Prop} {c : Nat} {R : Ca} {lv : Value} {es : List ((Int × En) × Value)}

/-- More blocks: those that came since. -/
def gr (fp : Nat → Prop) (H H' : Heap) : Nat → Prop := fun b => fp b ∨ (H.next ≤ b ∧ b < H'.next)

theorem gr_gr {H1 H2 : Heap} (h1 : H.next ≤ H1.next) (h2 : H1.next ≤ H2.next) {b : Nat} (h : gr (gr fp H H1) H1 H2 b) : gr fp H H2 b := by
  rcases h with (h | h) | h
  · exact .inl h
  · exact .inr ⟨h.1, by omega⟩
  · exact .inr ⟨by omega, h.2⟩

theorem RA.up {H' : Heap} (h : RA ext H fp c R lv es) (E : Ext H H') : RA ext H' (gr fp H H') c R lv es :=
  (h.kp E fun _ _ => id).more (fun _ hb => .inl hb) fun b hb => by
    rcases hb with hb | hb
    · exact Nat.lt_of_lt_of_le (h.lt b hb) E.le
    · exact hb.2

theorem RA.widen {H1 H2 : Heap} (h : RA ext H2 (gr (gr fp H H1) H1 H2) c R lv es) (hf : ∀ b, fp b → b < H.next) (h1 : H.next ≤ H1.next) (h2 : H1.next ≤ H2.next) : RA ext H2 (gr fp H H2) c R lv es :=
  h.more (fun _ hb => gr_gr h1 h2 hb) fun b hb => by
    rcases hb with hb | hb
    · have := hf b hb; omega
    · exact hb.2

/-- Another list is laid into it. -/
theorem RA.relist {H1 H' : Heap} {lv' : Value} {es' : List ((Int × En) × Value)} (h : RA ext H fp c R lv es) (E : Ext H H1) (o : Own H1 lv' 6 es'.length (entsC es') 86) (ho : ∀ b, Ev.ob lv' = some b → H.next ≤ b)
    (hw : ∀ x ∈ es', WAt ext H1 (fun b => fp b ∧ b ≠ c) x.2 x.1.2.wait) (hk : Kp (fun b => b = c) H1 H') (hn : H'.next = H1.next) (hg : H'.get c = some (.cells [.int .u64 R.mac, .int .u32 R.ip, .int .i64 R.last, lv', .int .i64 R.lost] 59)) :
    RA ext H' (gr fp H H') c { R with all := es'.map (·.1) } lv' es' ∧ Kp (fun b => b = c) H H' := by
  have hc := h.clt
  have hle := E.le
  refine ⟨⟨hg, o.kp hk fun b hb he => ?_, fun b hb => ?_, rfl, fun x hx => ?_, by omega, .inl h.fc, fun b hb => ?_⟩, (E.mono fun _ _ h => h.elim).then hk fun _ _ h => h⟩
  · have := ho b hb; omega
  · have h1 := ho b hb
    have h2 := o.ob_lt hb
    exact ⟨.inr ⟨h1, by omega⟩, by omega⟩
  · exact (hw x hx).kp hk (fun b hb => hb.2) fun b hb => ⟨.inl hb.1, hb.2⟩
  · rcases hb with hb | hb
    · have := h.lt b hb; omega
    · exact hb.2

/-! drop -/
theorem c58 (h : RA ext H fp c R lv es) {k : Nat} (hk : k < R.all.length) (hl : R.all.length ≤ 1000) :
    C (Z ext) 58 [.pointer (some ⟨c, 0, none⟩), .int .i64 k] H fun _ H' => ∃ lv' es', RA ext H' (gr fp H H') c { R with all := R.all.eraseIdx k } lv' es' ∧ Kp (fun b => b = c) H H' := by
  refine C_all fun Q hQ => ?_
  have hlen := h.len
  apply w58_ok rfl
  have E1 : Ext H (H.alloc (.cells [] 86)) := .alloc _ _ _
  have hone := entsC_one fun x hx => (h.wt x hx).one
  have h1 := h.kp E1 fun _ _ => id
  obtain ⟨⟨p1, c1, s1, a1⟩, -⟩ := slice57 (ext := ext) (k := k) h1.own (by omega) (by omega)
  simp only [w58, bsl_57_0, Ok2_some, nilCheck_ptr, Ok_some, FA_ptr, Ld1_ptr, rd1_own h1.cell, getN_zero, getN_succ, Nat.zero_add, s1]
  obtain ⟨v2, H2, e2, o2, k2, hob2⟩ := app57 (ext := ext) (Own.nil (H.alloc (.cells [] 86)) (some ⟨H.next, 0, none⟩) 6 86) (nx := k) ⟨_, _, rfl⟩ a1
    (by rw [entsC_take es k (by omega)]; exact entsC_one fun x hx => (h.wt x (List.mem_of_mem_take hx)).one) (by rw [entsC_take es k (by omega), entsC_len, List.length_take]; omega) (by omega)
  have E2 : Ext H H2 := E1.then k2 fun b hb hs => by simp [ob, unk] at hs
  have h2 := h.kp E2 fun _ _ => id
  obtain ⟨-, ⟨p3, c3, s3, a3⟩⟩ := slice57 (ext := ext) (k := k + 1) h2.own (by omega) (by omega)
  have hk1 : wrapF .i64 ((k : Int) + 1) = ((k + 1 : Nat) : Int) := by rw [wrap_i64 (by omega)]; omega
  simp only [e2, Ok2_some, rd1_own h2.cell, getN_zero, getN_succ, Ok_some, bin_add, hk1, s3]
  have hob : ∀ b, ob v2 = some b → H.next ≤ b := by
    intro b hb
    rcases hob2 with ⟨q, -⟩ | ⟨q, -⟩
    · rw [q] at hb; simp [ob, unk] at hb
    · rw [q] at hb; simp at hb; omega
  obtain ⟨v4, H4, e4, o4, k4, hob4⟩ := app57 (ext := ext) o2 (nx := es.length - (k + 1)) ⟨_, _, rfl⟩ a3
    (by rw [entsC_drop es (k + 1) (by omega)]; exact entsC_one fun x hx => (h.wt x (List.mem_of_mem_drop hx)).one) (by rw [entsC_drop es (k + 1) (by omega), entsC_len, List.length_drop]) (by omega)
  have E4 : Ext H H4 := E2.then k4 fun b hb hs => by have := hob b hs; omega
  have h4 := h.kp E4 fun _ _ => id
  rw [e4, Ok2_some]
  refine st_one' h4.cell (by rcases o4.len with ⟨_, _, rfl⟩; simp) (by simp) fun H5 n5 g5 k5 => ?_
  have hcat : [] ++ (entsC es).take (k * 6) ++ (entsC es).drop ((k + 1) * 6) = entsC (es.eraseIdx k) := by
    rw [entsC_take es k (by omega), entsC_drop es (k + 1) (by omega), List.eraseIdx_eq_take_drop_succ, entsC_append, List.nil_append]
  have hln : 0 + k + (es.length - (k + 1)) = (es.eraseIdx k).length := by rw [List.length_eraseIdx, if_pos (by omega)]; omega
  rw [hcat, hln] at o4
  have hr := h.relist E4 o4 (fun b hb => ?_) (fun x hx => (h.wt x (List.mem_of_mem_eraseIdx hx)).kp E4 (fun _ _ => id) fun _ h => h) k5 n5 g5
  · refine hQ _ _ ⟨v4, es.eraseIdx k, ?_, hr.2⟩
    have : (es.eraseIdx k).map (·.1) = R.all.eraseIdx k := by rw [← h.all]; simp [List.eraseIdx_eq_take_drop_succ]
    rw [← this]
    exact hr.1
  · rcases hob4 with ⟨q, -⟩ | ⟨q, -⟩
    · rw [q] at hb; exact hob b hb
    · rw [q] at hb; simp at hb; have := E2.le; omega

/-! put -/
def ins (a : Int × En) (L : List (Int × En)) : List (Int × En) :=
  (if thr a.1 L = true then L.eraseIdx (plc a.1 L) else L).take (plc a.1 L) ++ a :: (if thr a.1 L = true then L.eraseIdx (plc a.1 L) else L).drop (plc a.1 L)

def ptS (X : Ctx) (a0 v3_1 v12_9 : Value) (Q : Value → Heap → Prop) (H_17 : Heap) : Prop :=
 Ok2 (buildSlice X H_17 57 0 []) fun v18_18 H_19 =>
 Ok (nilCheck a0) fun v20_21 =>
 FA v20_21 3 fun v21_22 =>
 Ld1 X H_19 v21_22 fun v22_23 =>
 Ok (slice X 57 v22_23 none (some v12_9) none) fun v24_25 =>
 Ok2 (builtin X H_19 .append [57, 57] [v18_18, v24_25]) fun v25_26 H_27 =>
 LdN X H_27 v3_1 6 fun v27_30 =>
 Ok2 (buildSlice X H_27 57 1 [(0, v27_30)]) fun v28_31 H_32 =>
 Ok2 (builtin X H_32 .append [57, 57] [v25_26, v28_31]) fun v29_33 H_34 =>
 Ok (nilCheck a0) fun v33_39 =>
 FA v33_39 3 fun v34_40 =>
 Ld1 X H_34 v34_40 fun v35_41 =>
 Ok (slice X 57 v35_41 (some v12_9) none none) fun v37_43 =>
 Ok2 (builtin X H_34 .append [57, 57] [v29_33, v37_43]) fun v38_44 H_45 =>
 Ok (nilCheck a0) fun v39_46 =>
 FA v39_46 3 fun v40_47 =>
 St H_45 v40_47 1 v38_44 fun H_49 =>
 Q (.tuple #[]) H_49

theorem pt (h : RA ext H fp c R lv es) {k xb : Nat} (hk : k ≤ R.all.length) (hl : R.all.length ≤ 1000) {a : Int × En} {wv : Value} (hx : H.get xb = some (.cells (entC (a, wv)) 86)) (hxl : xb < H.next) (hw : WAt ext H (fun b => fp b ∧ b ≠ c) wv a.2.wait)
    {Q : Value → Heap → Prop} (hQ : ∀ r H', (∃ lv' es', RA ext H' (gr fp H H') c { R with all := R.all.take k ++ a :: R.all.drop k } lv' es' ∧ Kp (fun b => b = c) H H') → Q r H') :
    ptS (Z ext) (.pointer (some ⟨c, 0, none⟩)) (.pointer (some ⟨xb, 0, none⟩)) (.int .i64 k) Q H := by
  have hlen := h.len
  have E1 : Ext H (H.alloc (.cells [] 86)) := .alloc _ _ _
  have h1 := h.kp E1 fun _ _ => id
  obtain ⟨⟨p1, c1, s1, a1⟩, -⟩ := slice57 (ext := ext) (k := k) h1.own (by omega) (by omega)
  simp only [ptS, bsl_57_0, Ok2_some, nilCheck_ptr, Ok_some, FA_ptr, Ld1_ptr, rd1_own h1.cell, getN_zero, getN_succ, Nat.zero_add, s1]
  obtain ⟨v2, H2, e2, o2, k2, hob2⟩ := app57 (ext := ext) (Own.nil (H.alloc (.cells [] 86)) (some ⟨H.next, 0, none⟩) 6 86) (nx := k) ⟨_, _, rfl⟩ a1
    (by rw [entsC_take es k (by omega)]; exact entsC_one fun x hx => (h.wt x (List.mem_of_mem_take hx)).one) (by rw [entsC_take es k (by omega), entsC_len, List.length_take]; omega) (by omega)
  have E2 : Ext H H2 := E1.then k2 fun b hb hs => by simp [ob, unk] at hs
  have hx2 : H2.get xb = _ := (E2.get' hxl).trans hx
  have hob : ∀ b, ob v2 = some b → H.next ≤ b := by
    intro b hb
    rcases hob2 with ⟨q, -⟩ | ⟨q, -⟩
    · rw [q] at hb; simp [ob, unk] at hb
    · rw [q] at hb; simp at hb; omega
  have hcut : rdN (Z ext) H2 ⟨xb, 0, none⟩ 6 = some (entC (a, wv)) := by
    rw [rdN_own hx2]; exact cutN_all (entC (a, wv))
  have hent : entC (a, wv) = [.int .u32 a.1, .bool a.2.known, .int .u64 a.2.mac, .int .i64 a.2.at_, .int .i64 a.2.tries, wv] := rfl
  simp only [e2, Ok2_some, LdN_ptr, hcut, Ok_some]
  rw [hent, bsl_57_1, Ok2_some]
  have E3 : Ext H2 (H2.alloc (.cells [.int .u32 a.1, .bool a.2.known, .int .u64 a.2.mac, .int .i64 a.2.at_, .int .i64 a.2.tries, wv] 86)) := .alloc _ _ _
  obtain ⟨v4, H4, e4, o4, k4, hob4⟩ := app57 (ext := ext) (o2.kp E3 fun _ _ => id) (x := .slice (some ⟨H2.next, 0, none⟩) 1 1) (nx := 1) (xs := entC (a, wv)) ⟨_, _, rfl⟩ (by rw [cellsAt_own (Heap.get_alloc_self _ _) (by simp)]; rfl)
    (by simp [entC, hw.one]) rfl (by omega)
  have E4 : Ext H H4 := (E2.trans E3).then k4 fun b hb hs => by have := hob b hs; omega
  have h4 := h.kp E4 fun _ _ => id
  have hob' : ∀ b, ob v4 = some b → H.next ≤ b := by
    intro b hb
    rcases hob4 with ⟨q, -⟩ | ⟨q, -⟩
    · rw [q] at hb; exact hob b hb
    · rw [q] at hb; simp at hb; have := E2.le; omega
  obtain ⟨-, ⟨p5, c5, s5, a5⟩⟩ := slice57 (ext := ext) (k := k) h4.own (by omega) (by omega)
  simp only [e4, Ok2_some, rd1_own h4.cell, getN_zero, getN_succ, Ok_some, s5]
  obtain ⟨v6, H6, e6, o6, k6, hob6⟩ := app57 (ext := ext) o4 (nx := es.length - k) ⟨_, _, rfl⟩ a5
    (by rw [entsC_drop es k (by omega)]; exact entsC_one fun x hx => (h.wt x (List.mem_of_mem_drop hx)).one) (by rw [entsC_drop es k (by omega), entsC_len, List.length_drop]) (by omega)
  have E6 : Ext H H6 := E4.then k6 fun b hb hs => by have := hob' b hs; omega
  have h6 := h.kp E6 fun _ _ => id
  rw [e6, Ok2_some]
  refine st_one' h6.cell (by rcases o6.len with ⟨_, _, rfl⟩; simp) (by simp) fun H7 n7 g7 k7 => ?_
  have hcat : [] ++ (entsC es).take (k * 6) ++ entC (a, wv) ++ (entsC es).drop (k * 6) = entsC (es.take k ++ (a, wv) :: es.drop k) := by
    rw [entsC_take es k (by omega), entsC_drop es k (by omega), entsC_append, List.nil_append, List.append_assoc]; rfl
  have hln : 0 + k + 1 + (es.length - k) = (es.take k ++ (a, wv) :: es.drop k).length := by simp; omega
  rw [hcat, hln] at o6
  have hr := h.relist E6 o6 (fun b hb => ?_) (fun x hx => ?_) k7 n7 g7
  · refine hQ _ _ ⟨v6, es.take k ++ (a, wv) :: es.drop k, ?_, hr.2⟩
    have : (es.take k ++ (a, wv) :: es.drop k).map (·.1) = R.all.take k ++ a :: R.all.drop k := by rw [← h.all]; simp
    rw [← this]
    exact hr.1
  · rcases hob6 with ⟨q, -⟩ | ⟨q, -⟩
    · rw [q] at hb; exact hob' b hb
    · rw [q] at hb; simp at hb; have := E4.le; omega
  · rcases List.mem_append.1 hx with hx | hx
    · exact (h.wt x (List.mem_of_mem_take hx)).kp E6 (fun _ _ => id) fun _ h => h
    · rcases List.mem_cons.1 hx with rfl | hx
      · exact hw.kp E6 (fun _ _ => id) fun _ h => h
      · exact (h.wt x (List.mem_of_mem_drop hx)).kp E6 (fun _ _ => id) fun _ h => h

theorem thr_lt {k : Int} {L : List (Int × En)} (h : thr k L = true) : plc k L < L.length := by
  unfold thr at h
  split at h
  · rename_i a ha; exact (List.getElem?_eq_some_iff.1 ha).1
  · cases h

theorem c47 (h : RA ext H fp c R lv es) (hl : R.all.length ≤ 1000) {a : Int × En} {wv : Value} (hw : WAt ext H (fun b => fp b ∧ b ≠ c) wv a.2.wait) :
    C (Z ext) 47 [.pointer (some ⟨c, 0, none⟩), .agg ⟨entC (a, wv)⟩] H fun _ H' => ∃ lv' es', RA ext H' (gr fp H H') c { R with all := ins a R.all } lv' es' ∧ Kp (fun b => b = c) H H' := by
  refine C_all fun Q hQ => ?_
  apply w47_ok rfl
  have E1 : Ext H (H.alloc (.cells (entC (a, wv)) 86)) := .alloc _ _ _
  have h1 := h.up E1
  have g1 : (H.alloc (.cells (entC (a, wv)) 86)).get H.next = some (.cells (entC (a, wv)) 86) := by simp
  have n1 : (H.alloc (.cells (entC (a, wv)) 86)).next = H.next + 1 := by simp
  simp only [w47, Al_eq, cellsOf_agg]
  generalize H.alloc (.cells (entC (a, wv)) 86) = H1 at E1 h1 g1 n1 ⊢
  have hw1 : WAt ext H1 (fun b => gr fp H H1 b ∧ b ≠ c) wv a.2.wait := hw.kp E1 (fun _ _ => id) fun b hb => ⟨.inl hb.1, hb.2⟩
  simp only [FA_ptr, Ld1_ptr, rd1_own g1, entC, getN_zero, Nat.zero_add, Ok_some]
  refine C_mono (c45 h1 a.1 (by omega)) ?_
  rintro _ _ ⟨rfl, rfl⟩
  simp only [extract_mk, getN_zero, getN_succ, Ok_some, Br_bool]
  refine ⟨fun ht => ?_, fun ht => ?_⟩
  · refine C_mono (c58 h1 (thr_lt ht) (by omega)) ?_
    rintro _ H2 ⟨lv2, es2, h2, k2⟩
    have hc1 : c ≠ H.next := by have := h.clt; omega
    have g2 : H2.get H.next = _ := (k2.get _ (by omega) (fun e => hc1 e.symm)).trans g1
    have hle2 := k2.le
    refine pt h2 (k := plc a.1 R.all) (xb := H.next) (by rw [List.length_eraseIdx, if_pos (thr_lt ht)]; have := thr_lt ht; omega) (by rw [List.length_eraseIdx]; split <;> omega) g2 (by omega) (hw1.kp k2 (fun b hb => hb.2) fun b hb => ⟨.inl hb.1, hb.2⟩) ?_
    rintro r H3 ⟨lv3, es3, h3, k3⟩
    have hle3 := k3.le
    refine hQ _ _ ⟨lv3, es3, ?_, ((E1.mono fun _ _ h => h.elim).trans k2).trans k3⟩
    have e : ins a R.all = (R.all.eraseIdx (plc a.1 R.all)).take (plc a.1 R.all) ++ a :: (R.all.eraseIdx (plc a.1 R.all)).drop (plc a.1 R.all) := by unfold ins; rw [if_pos ht]
    rw [e]
    refine RA.widen (H1 := H1) (RA.more h3 (fun b hb => ?_) fun b hb => ?_) h.lt (by omega) (by omega)
    · exact gr_gr hle2 hle3 hb
    · have := h1.lt
      rcases hb with hb | hb
      · have := this b hb; omega
      · exact hb.2
  · refine pt h1 (k := plc a.1 R.all) (xb := H.next) plc_le (by omega) g1 (by omega) hw1 ?_
    rintro r H3 ⟨lv3, es3, h3, k3⟩
    refine hQ _ _ ⟨lv3, es3, ?_, (E1.mono fun _ _ h => h.elim).trans k3⟩
    have e : ins a R.all = R.all.take (plc a.1 R.all) ++ a :: R.all.drop (plc a.1 R.all) := by unfold ins; rw [if_neg (by simp [ht])]
    rw [e]
    exact RA.widen h3 h.lt (by omega) k3.le

end Ev
end Go.Proofs.Ytglkgmomnbdkoaa

/- The document's cache: room. -/
namespace Go.Proofs.Ytglkgmomnbdkoaa
namespace Ev
variable {ext : Nat → Nat → Option Value} {H : Heap} {fp : Nat → Prop} {c : Nat} {R : Ca} {lv : Value} {es : List ((Int × En) × Value)}

def atOf (L : List (Int × En)) (s : Int) : Int := match L[s.toNat]? with
  | some a => a.2.at_
  | none => 0

/-- The oldest that is known, so far. -/
def rst (L : List (Int × En)) (s : Int) (i : Nat) : Int := match L[i]? with
  | some a => if a.2.known = true ∧ (s < 0 ∨ a.2.at_ < atOf L s) then i else s
  | none => s

def rold (L : List (Int × En)) : Int := (List.range L.length).foldl (rst L) (-1)

def rroom (R : Ca) : Bool × Ca :=
  if R.all.length < 8 then (true, R) else if 0 ≤ rold R.all then (true, { R with all := R.all.eraseIdx (rold R.all).toNat }) else (false, R)

theorem rst_rng (L : List (Int × En)) : ∀ i, -1 ≤ (List.range i).foldl (rst L) (-1) ∧ (List.range i).foldl (rst L) (-1) < i
  | 0 => by simp
  | i + 1 => by
    have ih := rst_rng L i
    rw [List.range_succ, List.foldl_append]
    generalize (List.range i).foldl (rst L) (-1) = s at ih
    simp only [List.foldl_cons, List.foldl_nil, rst]
    split
    · split <;> omega
    · omega

theorem c48 (h : RA ext H fp c R lv es) (hl : R.all.length ≤ 1000) :
    C (Z ext) 48 [.pointer (some ⟨c, 0, none⟩)] H fun r H' => r = .bool (rroom R).1 ∧ (∃ lv' es', RA ext H' (gr fp H H') c (rroom R).2 lv' es') ∧ Kp (fun b => b = c) H H' := by
  refine C_all fun Q hQ => ?_
  apply w48_ok rfl
  have hlen := h.len
  obtain ⟨lp, lc, hlv⟩ := h.own.len
  have hup : RA ext H (gr fp H H) c R lv es := h.up (.refl _ _)
  simp only [w48, nilCheck_ptr, Ok_some, FA_ptr, Ld1_ptr, rd1_own h.cell, getN_zero, getN_succ, Nat.zero_add, hlv, len_57, Ok2_some, bin_lss, Br_dec]
  refine ⟨fun h8 => ?_, fun h8 => ?_⟩
  · have e : rroom R = (true, R) := by unfold rroom; rw [if_pos (by omega)]
    rw [e] at hQ
    exact hQ _ _ ⟨rfl, ⟨lv, es, hup⟩, .refl _ _⟩
  intro P hP
  refine loop_up R.all.length (fun i vs H' => vs = [.int .i64 ((List.range i).foldl (rst R.all) (-1)), .int .i64 i] ∧ H' = H) ?_ ?_ (Nat.zero_le _) ⟨rfl, rfl⟩
  · rintro i _ _ hi ⟨rfl, rfl⟩ K
    refine hP _ _ _ ?_
    have hs := rst_rng R.all i
    have hstep : (List.range (i + 1)).foldl (rst R.all) (-1) = rst R.all ((List.range i).foldl (rst R.all) (-1)) i := by rw [List.range_succ, List.foldl_append]; rfl
    have ha : R.all[i]? = some R.all[i] := List.getElem?_eq_getElem hi
    generalize R.all[i] = a at ha
    have hrst : ∀ s, rst R.all s i = if a.2.known = true ∧ (s < 0 ∨ a.2.at_ < atOf R.all s) then (i : Int) else s := fun s => by unfold rst; rw [ha]
    rw [hrst] at hstep
    generalize (List.range i).foldl (rst R.all) (-1) = s at hs hstep ⊢
    obtain ⟨wv, hx, -⟩ := h.get ha
    obtain ⟨b, hb, -, hbg⟩ := h.lv_ptr hx
    rw [hlv] at hb
    cases hb
    have hii : (0 : Int) ≤ i ∧ (i : Int) < es.length := by omega
    have e1 : (i : Int).toNat * 6 + 1 = i * 6 + 1 := by omega
    have e3 : (i : Int).toNat * 6 + 3 = i * 6 + 3 := by omega
    have hinc : wrapF .i64 ((i : Int) + 1) = ((i + 1 : Nat) : Int) := by rw [wrap_i64 (by omega)]; omega
    simp only [nilCheck_ptr, Ok_some, FA_ptr, Ld1_ptr, rd1_own h.cell, getN_zero, getN_succ, Nat.zero_add, hlv, len_57, Ok2_some, bin_lss, Br_dec, IA_slice, e1, rd1_own hbg, getN_ents hx (show 1 < 6 by omega), entC, List.getElem?_cons_zero, List.getElem?_cons_succ, bin_add, hinc, e3, getN_ents hx (show 3 < 6 by omega)]
    refine ⟨fun _ => ⟨hii, ?_⟩, fun h => absurd hii.2 h⟩
    rw [Br_bool]
    refine ⟨fun hkn => ⟨fun hneg => ?_, fun hneg => ⟨hii, ?_⟩⟩, fun hkn => ?_⟩
    · refine K _ _ ⟨?_, rfl⟩
      rw [hstep, if_pos ⟨hkn, .inl hneg⟩]
    · obtain ⟨a2, ha2⟩ : ∃ a2, R.all[s.toNat]? = some a2 := ⟨_, List.getElem?_eq_getElem (by omega)⟩
      have hat : atOf R.all s = a2.2.at_ := by unfold atOf; rw [ha2]
      rw [hat] at hstep
      obtain ⟨wv2, hx2, -⟩ := h.get ha2
      refine ⟨by omega, ?_⟩
      simp only [rd1_own hbg, getN_ents hx2 (show 3 < 6 by omega), entC, List.getElem?_cons_zero, List.getElem?_cons_succ, Ok_some, bin_lss, Br_dec]
      refine ⟨fun hlt => K _ _ ⟨?_, rfl⟩, fun hlt => K _ _ ⟨?_, rfl⟩⟩
      · rw [hstep, if_pos ⟨hkn, .inr hlt⟩]
      · rw [hstep, if_neg]
        rintro ⟨-, h1 | h1⟩
        · exact hneg h1
        · exact hlt h1
    · refine K _ _ ⟨?_, rfl⟩
      rw [hstep, if_neg (by simp [hkn])]
  · rintro _ _ ⟨rfl, rfl⟩
    refine hP _ _ _ ?_
    have hs := rst_rng R.all R.all.length
    have hold : rold R.all = (List.range R.all.length).foldl (rst R.all) (-1) := rfl
    rw [← hold] at hs ⊢
    simp only [nilCheck_ptr, Ok_some, FA_ptr, Ld1_ptr, rd1_own h.cell, getN_zero, getN_succ, Nat.zero_add, hlv, len_57, Ok2_some, bin_lss, bin_geq, Br_dec]
    refine ⟨fun h => absurd h (by omega), fun _ => ⟨fun h0 => ?_, fun h0 => ?_⟩⟩
    · have e : rroom R = (true, { R with all := R.all.eraseIdx (rold R.all).toNat }) := by unfold rroom; rw [if_neg (by omega), if_pos h0]
      rw [e] at hQ
      have e2 : (Value.int .i64 (rold R.all)) = .int .i64 ((rold R.all).toNat : Nat) := by rw [Int.toNat_of_nonneg h0]
      rw [e2]
      refine C_mono (c58 h (by omega) hl) ?_
      rintro _ H2 ⟨lv2, es2, h2, k2⟩
      rw [decide_eq_true (by omega)]
      exact hQ _ _ ⟨rfl, ⟨lv2, es2, h2⟩, k2⟩
    · have e : rroom R = (false, R) := by unfold rroom; rw [if_neg (by omega), if_neg h0]
      rw [e] at hQ
      rw [decide_eq_false h0]
      exact hQ _ _ ⟨rfl, ⟨lv, es, hup⟩, .refl _ _⟩

end Ev
end Go.Proofs.Ytglkgmomnbdkoaa

/- The document's cache: Send. -/
namespace Go.Proofs.Ytglkgmomnbdkoaa
namespace Ev
variable {ext : Nat → Nat → Option Value} {H : Heap} {fp : Nat → Prop} {c : Nat} {R : Ca} {lv : Value} {es : List ((Int × En) × Value)}

/-- Bytes, once more, in new memory. -/
theorem cp29 {v : Value} {bs : List Int} (hv : BAt ext H v bs) (hl : bs.length ≤ 140737488355328) {K : Value → Heap → Prop}
    (k : ∀ r H', BAt ext H' r bs → (∀ b, bk r = some b → H.next ≤ b) → Ext H H' → (bs.length ≠ 0 → ∃ d, r = .slice (some ⟨d, 0, none⟩) bs.length (unk + 1) ∧ H.next ≤ d ∧ d < H'.next ∧ H'.get d = some (.cells (B8 bs) 5)) → K r H') :
    Ok2 (buildSlice (Z ext) H 29 0 []) fun v1 H1 => Ok2 (builtin (Z ext) H1 .append [29, 29] [v1, v]) K := by
  obtain ⟨p, c, rfl⟩ := hv.shape
  rw [bsl_29_0, Ok2_some]
  have E1 : Ext H (H.alloc (.cells [] 5)) := .alloc _ _ _
  obtain ⟨v', H2, e2, o2, k2, hob⟩ := app29 (ext := ext) (Own.nil (H.alloc (.cells [] 5)) (some ⟨H.next, 0, none⟩) 1 5) (bs := []) (xs := bs) (x := .slice p bs.length c) ⟨_, _, rfl⟩ (hv.up E1).cells (by omega)
  rw [e2, Ok2_some]
  have E2 : Ext H H2 := E1.then k2 fun b hb hs => by simp [ob, unk] at hs
  rw [Nat.zero_add, List.nil_append] at o2
  have hbk : ∀ b, bk v' = some b → H.next ≤ b ∧ b < H2.next := by
    intro b hb
    rcases hob with ⟨-, rfl, rfl, -⟩ | ⟨-, h2, -, rfl⟩
    · simp [bk] at hb; subst hb; simp
    · simp [bk] at hb; rw [h2]; simp; omega
  refine k _ _ ⟨o2.len, ?_, hv.byt, fun b hb => (hbk b hb).2⟩ (fun b hb => (hbk b hb).1) E2 fun h0 => ?_
  · have := o2.cells (X := Z ext); rwa [Nat.mul_one] at this
  · rcases o2.2 with ⟨h1, -⟩ | ⟨d, h1, h2, h3⟩
    · exact absurd h1 h0
    · exact ⟨d, h1, (hbk d (by rw [h1]; rfl)).1, h2, h3⟩

def rsendB (R : Ca) (to : Int) (bs : List Int) (now : Int) : Ca × List (List Int) × Int :=
  if bs.length = 0 ∨ 1500 < bs.length then (R, [], 6)
  else match (if thr to R.all = true then R.all[plc to R.all]? else none) with
    | some a => if a.2.known = true then (R, [frameB a.2.mac R.mac 2048 bs], 0)
      else if 4 ≤ a.2.wait.length then ({ R with lost := R.lost + 1 }, [], 10)
      else ({ R with all := ins (a.1, { a.2 with wait := a.2.wait ++ [bs] }) R.all }, [], 0)
    | none => if (rroom R).1 = true then ({ (rroom R).2 with all := ins (to, ⟨false, 0, now, 1, [bs]⟩) (rroom R).2.all }, [frameB 281474976710655 R.mac 2054 (arpB 1 R.mac R.ip 0 to)], 0)
      else ({ (rroom R).2 with lost := (rroom R).2.lost + 1 }, [], 10)

def rsend (R : Ca) (to : Int) (bs : List Int) (now : Int) : Ca × List (List Int) × Int :=
  if (bgn R now).1 ≠ 0 then ((bgn R now).2, [], (bgn R now).1) else rsendB (bgn R now).2 to bs now

def swS (X : Ctx) (a0 v32_33 a2 : Value) (Q : Value → Heap → Prop) (H_74 : Heap) : Prop :=
 Ok (nilCheck a0) fun v76_88 =>
 FA v76_88 3 fun v77_89 =>
 Ld1 X H_74 v77_89 fun v78_90 =>
 IA v78_90 v32_33 6 fun v80_92 =>
 LdN X H_74 v80_92 6 fun v81_93 =>
 Al H_74 (.cells [.int .u32 0, .bool false, .int .u64 0, .int .i64 0, .int .i64 0, .slice none 0 0] 86) fun v13_94 H_95 =>
 St H_95 v13_94 6 v81_93 fun H_97 =>
 Ok2 (buildSlice X H_97 34 0 []) fun v82_98 H_99 =>
 FA v13_94 5 fun v83_100 =>
 Ld1 X H_99 v83_100 fun v84_101 =>
 Ok2 (builtin X H_99 .append [34, 34] [v82_98, v84_101]) fun v85_102 H_103 =>
 Ok2 (buildSlice X H_103 29 0 []) fun v86_104 H_105 =>
 Ok2 (builtin X H_105 .append [29, 29] [v86_104, a2]) fun v88_107 H_108 =>
 Ok2 (buildSlice X H_108 34 1 [(0, v88_107)]) fun v89_109 H_110 =>
 Ok2 (builtin X H_110 .append [34, 34] [v85_102, v89_109]) fun v90_111 H_112 =>
 FA v13_94 5 fun v91_113 =>
 St H_112 v91_113 1 v90_111 fun H_115 =>
 LdN X H_115 v13_94 6 fun v93_117 =>
 C X 47 [a0, v93_117] H_115 fun _ H_119 =>
 Q (.tuple #[(.slice none 0 0), (.int .i64 0)]) H_119

theorem entC_cells {a : Int × En} {wv : Value} : cellsOf (.agg ⟨entC (a, wv)⟩) = entC (a, wv) := rfl
theorem entC_one {a : Int × En} {wv : Value} (h : one wv = true) : (entC (a, wv)).all one = true := by simp [entC, h]

/-- A body waits. -/
theorem sw (h : RA ext H fp c R lv es) (hl : R.all.length ≤ 1000) {i : Nat} {a : Int × En} (ha : R.all[i]? = some a) (hwl : a.2.wait.length ≤ 100) {body : Value} {bs : List Int} (hb : BAt ext H body bs) (hbl : bs.length ≤ 1500) (hb0 : bs.length ≠ 0)
    {Q : Value → Heap → Prop} (hQ : ∀ H', (∃ lv' es', RA ext H' (gr fp H H') c { R with all := ins (a.1, { a.2 with wait := a.2.wait ++ [bs] }) R.all } lv' es') → Kp (fun b => b = c) H H' → Q (.tuple #[(.slice none 0 0), (.int .i64 0)]) H') :
    swS (Z ext) (.pointer (some ⟨c, 0, none⟩)) (.int .i64 i) body Q H := by
  have hlen := h.len
  obtain ⟨wv, hx, hw⟩ := h.get ha
  obtain ⟨b, hlv, -, hbg⟩ := h.lv_ptr hx
  have hi := (List.getElem?_eq_some_iff.1 ha).1
  have e1 : (i : Int).toNat * 6 = i * 6 := by omega
  obtain ⟨vs, pw, cw, hwe, hwc, hwB⟩ := hw.ex
  have hwo := hw.one
  simp only [swS, nilCheck_ptr, Ok_some, FA_ptr, Ld1_ptr, rd1_own h.cell, getN_zero, getN_succ, Nat.zero_add, hlv, IA_slice, e1, LdN_ptr, rdN_own hbg]
  refine ⟨by omega, ?_⟩
  rw [cutN_of (by rw [entsC_len]; omega), entsC_cut hx, Ok_some, Al_eq]
  refine new_st rfl rfl (by rw [entC_cells]; exact entC_one hwo) ?_
  intro H1 n1 g1 E1
  rw [entC_cells] at g1
  rw [bsl_34_0, Ok2_some]
  have E2 : Ext H1 (H1.alloc (.cells [] 29)) := .alloc _ _ _
  have g2 : (H1.alloc (.cells [] 29)).get H.next = _ := (E2.get' (by omega)).trans g1
  have E12 := E1.trans E2
  obtain ⟨v3, H3, e3, o3, k3, hob3⟩ := app34 (ext := ext) (Own.nil (H1.alloc (.cells [] 29)) (some ⟨H1.next, 0, none⟩) 1 29) (xs := vs) (x := wv) (nx := a.2.wait.length) ⟨_, _, hwe⟩
    (cellsAt_kp E12 hwc (fun b hb => (hw.lt b hb).1) (fun _ _ => id)) hwB.one hwB.length (by omega)
  simp only [FA_ptr, Ld1_ptr, Nat.zero_add, rd1_own g2, entC, getN_zero, getN_succ, Ok_some, e3, Ok2_some]
  have E23 : Ext (H1.alloc (.cells [] 29)) H3 := k3.mono fun b _ hs => by simp [ob, unk] at hs
  have E3 : Ext H H3 := E12.trans E23
  have g3 : H3.get H.next = _ := (E23.get' (by simp; omega)).trans g2
  have n2 : H1.next + 1 ≤ H3.next := by have := E23.le; simpa using this
  refine cp29 (hb.up E3) (by omega) ?_
  intro r H4 hb4 f4 E4 hd
  obtain ⟨d, rfl, hd1, hd2, hd3⟩ := hd hb0
  have hle3 := E3.le
  rw [bsl_34_1 _ (by simp), Ok2_some]
  have E5 : Ext H4 (H4.alloc (.cells [.slice (some ⟨d, 0, none⟩) bs.length (unk + 1)] 29)) := .alloc _ _ _
  have hob : ∀ b, ob v3 = some b → H1.next ≤ b := by
    intro b hb
    rcases hob3 with ⟨q, -⟩ | ⟨q, -⟩
    · rw [q] at hb; simp [ob, unk] at hb
    · rw [q] at hb; simp at hb; omega
  obtain ⟨v6, H6, e6, o6, k6, hob6⟩ := app34 (ext := ext) ((o3.kp E4 fun _ _ => id).kp E5 fun _ _ => id) (xs := [.slice (some ⟨d, 0, none⟩) bs.length (unk + 1)]) (x := .slice (some ⟨H4.next, 0, none⟩) 1 1) (nx := 1) ⟨_, _, rfl⟩
    (by rw [cellsAt_own (Heap.get_alloc_self _ _) (by simp)]; rfl) (by simp) rfl (by omega)
  rw [e6, Ok2_some]
  have E35 := E4.trans E5
  have k36 : Kp (fun b => ob v3 = some b) H3 H6 := (E35.mono fun _ _ h => h.elim).then k6 fun _ _ h => h
  have E6 : Ext H H6 := E3.then k36 fun b hb hs => by have := hob b hs; omega
  have g6 : H6.get H.next = _ := (k36.get _ (by omega) (fun hs => by have := hob _ hs; omega)).trans g3
  have hle4 := E4.le
  rcases hob6 with ⟨-, -, -, q⟩ | ⟨-, n6, -, rfl⟩
  · cases q
  simp only [Heap.next_alloc] at n6
  refine st_one' g6 (by simp) (by simp [entC]) fun H7 n7 g7 k7 => ?_
  have E7 : Ext H H7 := E6.then k7 fun b hb he => by omega
  have hset : (entC (a, wv)).set 5 (.slice (some ⟨(H4.alloc (.cells [.slice (some ⟨d, 0, none⟩) bs.length (unk + 1)] 29)).next, 0, none⟩) (0 + a.2.wait.length + 1) (unk + 1)) =
      entC ((a.1, { a.2 with wait := a.2.wait ++ [bs] }), .slice (some ⟨(H4.alloc (.cells [.slice (some ⟨d, 0, none⟩) bs.length (unk + 1)] 29)).next, 0, none⟩) (0 + a.2.wait.length + 1) (unk + 1)) := rfl
  rw [hset] at g7
  rw [LdN_ptr, rdN_own g7]
  rw [show ∀ x, cutN 0 6 (entC x) = some (entC x) from fun x => cutN_all (entC x), Ok_some]
  have h7 := h.up E7
  have hc := h.clt
  have hw7 : WAt ext H7 (fun b => gr fp H H7 b ∧ b ≠ c) (.slice (some ⟨(H4.alloc (.cells [.slice (some ⟨d, 0, none⟩) bs.length (unk + 1)] 29)).next, 0, none⟩) (0 + a.2.wait.length + 1) (unk + 1)) (a.2.wait ++ [bs]) := by
    rcases o6.2 with ⟨h0, -⟩ | ⟨d6, hd6, hdl, hdg⟩
    · omega
    cases hd6
    have hg : H7.get (H4.next + 1) = some (.cells ([] ++ vs ++ [.slice (some ⟨d, 0, none⟩) bs.length (unk + 1)]) 29) := by
      rw [k7.get _ (by simpa using hdl) (by omega)]; simpa using hdg
    have hlvs := hwB.length
    refine ⟨⟨vs ++ [.slice (some ⟨d, 0, none⟩) bs.length (unk + 1)], some ⟨H4.next + 1, 0, none⟩, unk + 1, by simp, ?_, ?_⟩, ?_⟩
    · simp only [Heap.next_alloc]
      rw [cellsAt_own hg (by simp; omega)]
      simp only [List.nil_append, List.drop_zero]
      rw [List.take_of_length_le (by simp; omega)]
    · have kq : Kp (fun b => b = H.next ∨ ob v3 = some b) H4 H7 := ((E5.mono fun _ _ h => h.elim).then (S := fun b => b = H.next ∨ ob v3 = some b) k6 fun _ _ h => .inr h).then k7 fun _ _ h => .inl h
      refine Bodies.append (hwB.kp E7 (fun _ _ => id) fun b hb' => ⟨.inl hb'.1, hb'.2⟩) ⟨⟨hb4.kp kq fun b hb' => ?_, fun k hk => ?_⟩, trivial⟩
      · have hbd : b = d := by simpa [bk, eq_comm] using hb'
        subst hbd
        rintro (hh | hh)
        · omega
        · have h8 := o3.ob_lt hh
          omega
      · have hbd : k = d := by simpa [bk, eq_comm] using hk
        subst hbd
        exact ⟨.inr ⟨by omega, by omega⟩, by omega⟩
    · intro b hb'
      have hbd : b = H4.next + 1 := by simpa [bk, eq_comm] using hb'
      subst hbd
      exact ⟨by omega, .inr ⟨by omega, by omega⟩, by omega⟩
  refine C_mono (c47 h7 (by omega) hw7) ?_
  rintro _ H8 ⟨lv8, es8, h8, k8⟩
  exact hQ _ ⟨lv8, es8, RA.widen h8 h.lt E7.le k8.le⟩ ((E7.mono fun _ _ h => h.elim).then k8 fun _ _ h => h)

end Ev
end Go.Proofs.Ytglkgmomnbdkoaa

/- The document's cache: Send's contract, New's. -/
namespace Go.Proofs.Ytglkgmomnbdkoaa
namespace Ev
variable {ext : Nat → Nat → Option Value} {H : Heap} {fp : Nat → Prop} {c : Nat} {R : Ca} {lv : Value} {es : List ((Int × En) × Value)}

theorem rroom_same (R : Ca) : (rroom R).2.mac = R.mac ∧ (rroom R).2.ip = R.ip ∧ (rroom R).2.last = R.last ∧ (rroom R).2.lost = R.lost ∧ (rroom R).2.all.length ≤ R.all.length := by
  unfold rroom
  split
  · simp
  · split
    · refine ⟨rfl, rfl, rfl, rfl, ?_⟩
      show (R.all.eraseIdx _).length ≤ _
      exact (List.eraseIdx_sublist _ _).length_le
    · simp

theorem RA.lost (h : RA ext H fp c R lv es) {n : Int} {K : Heap → Prop} (k : ∀ H', RA ext H' (gr fp H H') c { R with lost := n } lv es → Kp (fun b => b = c) H H' → K H') : St H (.pointer (some ⟨c, 4, none⟩)) 1 (.int .i64 n) K := by
  refine st_one' h.cell (by simp) (by simp) fun H' n' g' k' => k H' ?_ k'
  exact (h.cells k' g').more (fun _ hb => .inl hb) fun b hb => by
    rcases hb with hb | hb
    · have := h.lt b hb; omega
    · exact hb.2

theorem FrL.down {H0 H1 : Heap} {fp : Nat → Prop} {o : Option Nat} (hle : H0.next ≤ H1.next) : ∀ {vs : List Value} {fs : List (List Int)}, FrL H1 H fp o vs fs → FrL H0 H fp o vs fs
  | [], [], _ => trivial
  | _ :: _, _ :: _, h => ⟨⟨h.1.1.down hle, h.1.2⟩, FrL.down hle h.2⟩
  | [], _ :: _, h => h.elim
  | _ :: _, [], h => h.elim

theorem Frs.down {H0 H1 : Heap} {fp : Nat → Prop} {v : Value} {fs : List (List Int)} (h : Frs ext H1 H fp v fs) (hle : H0.next ≤ H1.next) : Frs ext H0 H fp v fs := by
  obtain ⟨⟨vs, p, cc, e1, e2, e3⟩, e4⟩ := h
  exact ⟨⟨vs, p, cc, e1, e2, e3.down hle⟩, fun b hb => by have := e4 b hb; exact ⟨⟨by omega, this.1.2⟩, this.2⟩⟩

def srS (X : Ctx) (a0 a1 a2 a3 : Value) (Q : Value → Heap → Prop) (H_31 : Heap) : Prop :=
 C X 48 [a0] H_31 fun v96_123 H_124 =>
 Ok (un .not v96_123) fun v97_125 =>
 Br v97_125
 (Ok (nilCheck a0) fun v99_127 =>
 FA v99_127 4 fun v100_128 =>
 Ld1 X H_124 v100_128 fun v101_129 =>
 Ok (bin X .add 3 v101_129 (.int .i64 1)) fun v102_130 =>
 Ok (nilCheck a0) fun v103_131 =>
 FA v103_131 4 fun v104_132 =>
 St H_124 v104_132 1 v102_130 fun H_134 =>
 Q (.tuple #[(.slice none 0 0), (.int .i64 10)]) H_134)
 (Ok2 (buildSlice X H_124 29 0 []) fun v108_140 H_141 =>
 Ok2 (builtin X H_141 .append [29, 29] [v108_140, a2]) fun v110_143 H_144 =>
 Ok2 (buildSlice X H_144 34 1 [(0, v110_143)]) fun v111_145 H_146 =>
 Ok (build X 86 [(0, a1), (3, a3), (4, (.int .i64 1)), (5, v111_145)]) fun v112_147 =>
 C X 47 [a0, v112_147] H_146 fun _ H_149 =>
 C X 49 [a0, (.int .i64 1), (.int .u64 281474976710655), (.int .u64 0), a1] H_149 fun v116_152 H_153 =>
 Ok2 (buildSlice X H_153 34 1 [(0, v116_152)]) fun v117_154 H_155 =>
 Q (.tuple #[v117_154, (.int .i64 0)]) H_155)

/-- A neighbour is asked for. -/
theorem sr (h : RA ext H fp c R lv es) (hl : R.all.length ≤ 900) (hm : 0 ≤ R.mac ∧ R.mac < 281474976710655) (hi : 0 ≤ R.ip ∧ R.ip < 4294967296) (hlo : 0 ≤ R.lost ∧ R.lost < 4611686018427387905) {to now : Int} (ht : 0 ≤ to ∧ to < 4294967296)
    {body : Value} {bs : List Int} (hb : BAt ext H body bs) (hbf : ∀ b, bk body = some b → b ≠ c) (hbl : bs.length ≤ 1500)
    {Q : Value → Heap → Prop} (hQ : ∀ fv H' A fs (e : Int), (if (rroom R).1 = true then ({ (rroom R).2 with all := ins (to, ⟨false, 0, now, 1, [bs]⟩) (rroom R).2.all }, [frameB 281474976710655 R.mac 2054 (arpB 1 R.mac R.ip 0 to)], 0)
      else ({ (rroom R).2 with lost := (rroom R).2.lost + 1 }, [], 10)) = (A, fs, e) → (∃ lv' es', RA ext H' (gr fp H H') c A lv' es') → Frs ext H H' (fun _ => False) fv fs → Kp (fun b => b = c) H H' → Q (.tuple #[fv, .int .i64 e]) H') :
    srS (Z ext) (.pointer (some ⟨c, 0, none⟩)) (.int .u32 to) body (.int .i64 now) Q H := by
  unfold srS
  refine C_mono (c48 h (by omega)) ?_
  rintro _ H1 ⟨rfl, ⟨lv1, es1, h1⟩, k1⟩
  obtain ⟨sm, si, sl, so, sn⟩ := rroom_same R
  have hc := h.clt
  have hle1 := k1.le
  simp only [un_not, Ok_some, Br_bool, Bool.not_eq_true', Bool.not_eq_false']
  refine ⟨fun hr => ?_, fun hr => ?_⟩
  · simp only [nilCheck_ptr, Ok_some, FA_ptr, Ld1_ptr, rd1_own h1.cell, getN_zero, getN_succ, Nat.zero_add, bin_add]
    rw [so, wrap_i64 (by omega)]
    refine h1.lost fun H2 h2 k2 => ?_
    exact hQ _ _ _ _ _ (by rw [hr, so]; rfl) ⟨_, _, RA.widen h2 h.lt hle1 k2.le⟩ (.nil _) (k1.then k2 fun _ _ h => h)
  · have hb1 := hb.kp k1 hbf
    refine cp29 hb1 (by omega) ?_
    intro r H2 hb2 f2 E2 _
    obtain ⟨p2, c2, hr2⟩ := hb2.shape
    rw [bsl_34_1 r (by rw [hr2]; simp), Ok2_some]
    have E3 : Ext H2 (H2.alloc (.cells [r] 29)) := .alloc _ _ _
    have E13 := E2.trans E3
    have hle2 := E2.le
    rw [build_86_0345 _ _ _ _ (by simp) (by simp) (by simp) (by simp), Ok_some]
    have h3 := h1.up E13
    have hc1 := h1.clt
    have hw3 : WAt ext (H2.alloc (.cells [r] 29)) (fun b => gr (gr fp H H1) H1 (H2.alloc (.cells [r] 29)) b ∧ b ≠ c) (.slice (some ⟨H2.next, 0, none⟩) 1 1) [bs] := by
      refine ⟨⟨[r], _, _, rfl, by rw [show [bs].length = 1 from rfl, cellsAt_own (Heap.get_alloc_self _ _) (by simp)]; rfl, ⟨hb2.up E3, fun k hk => ?_⟩, trivial⟩, fun b hb' => ?_⟩
      · have h4 := f2 k hk
        have h5 := hb2.lt k hk
        exact ⟨.inr ⟨h4, by simp; omega⟩, by omega⟩
      · have hbd : b = H2.next := by simpa [bk, eq_comm] using hb'
        subst hbd
        exact ⟨by simp, .inr ⟨hle2, by simp⟩, by omega⟩
    refine C_mono (c47 (a := (to, ⟨false, 0, now, 1, [bs]⟩)) h3 (by omega) hw3) ?_
    rintro _ H4 ⟨lv4, es4, h4, k4⟩
    have hle3 := E13.le
    have hle4 := k4.le
    have h4c := h4.cell
    simp only [sm, si, sl, so] at h4c
    refine C_mono (c49 h4c h4.clt hm hi (by omega) (by omega) (by omega) ht) ?_
    rintro f H5 ⟨f5, E5⟩
    rw [bsl_34_1 f (by obtain ⟨b, rfl, -⟩ := f5; simp), Ok2_some]
    have E6 : Ext H4 (H5.alloc (.cells [f] 29)) := E5.trans (.alloc _ _ _)
    refine hQ _ _ _ _ _ (by rw [if_pos hr]) ⟨lv4, es4, ?_⟩ (Frs.one (f5.down (by omega)) (fun _ _ h => h)) (((k1.then (S' := fun _ => False) E13 fun _ _ h => h.elim).then k4 fun _ _ h => h).then E6 fun _ _ h => h.elim)
    refine (h4.kp E6 fun _ _ => id).more (fun b hb' => ?_) fun b hb' => ?_
    · have := E6.le
      rcases gr_gr (fp := gr fp H H1) hle3 hle4 hb' with hb' | hb'
      · rcases hb' with hb' | hb'
        · exact .inl hb'
        · exact .inr ⟨hb'.1, by omega⟩
      · exact .inr ⟨by omega, by omega⟩
    · have := E6.le
      rcases hb' with hb' | hb'
      · have := h.lt b hb'; omega
      · exact hb'.2

theorem c34 (h : RA ext H fp c R lv es) (ho : CaOk R) (hl : R.lost < 4611686018427387904) {to : Int} (ht : 0 ≤ to ∧ to < 4294967296) {body : Value} {bs : List Int} (hb : BAt ext H body bs) (hbf : ∀ b, bk body = some b → b ≠ c) (now : Int) :
    C (Z ext) 34 [.pointer (some ⟨c, 0, none⟩), .int .u32 to, body, .int .i64 now] H fun r H' => ∃ fv, r = .tuple #[fv, .int .i64 (rsend R to bs now).2.2] ∧ (∃ lv' es', RA ext H' (gr fp H H') c (rsend R to bs now).1 lv' es') ∧
      Frs ext H H' (fun _ => False) fv (rsend R to bs now).2.1 ∧ Kp (fun b => b = c) H H' := by
  refine C_all fun Q hQ => ?_
  apply w34_ok rfl
  simp only [w34]
  refine C_mono (c44 h now) ?_
  rintro _ H1 ⟨rfl, h1, k1, n1⟩
  have ho1 := bgn_ok ho now
  have hl1 := (bgn_lost R now).1
  have hb1 := hb.kp k1 hbf
  have hQ' : ∀ (fv : Value) (e : Int) (A : Ca) (fs : List (List Int)) (H' : Heap), rsend R to bs now = (A, fs, e) → (∃ lv' es', RA ext H' (gr fp H1 H') c A lv' es') → Frs ext H1 H' (fun _ => False) fv fs → Kp (fun b => b = c) H1 H' → Q (.tuple #[fv, .int .i64 e]) H' := by
    intro fv e A fs H' hs a1 a2 a3
    rw [hs] at hQ
    refine hQ _ _ ⟨fv, rfl, ?_, ?_, k1.trans a3⟩
    · obtain ⟨l', e', a1⟩ := a1
      refine ⟨l', e', ?_⟩
      unfold gr at a1 ⊢
      rw [← n1]
      exact a1
    · exact a2.down (by omega)
  simp only [bin_neq, Ok_some, Br_ndec]
  refine ⟨fun he => ?_, fun he => ?_⟩
  · exact hQ' _ _ _ _ _ (by unfold rsend; rw [if_pos he]) ⟨_, _, h1.up (.refl _ _)⟩ (.nil _) (.refl _ _)
  have hsend : rsend R to bs now = rsendB (bgn R now).2 to bs now := by unfold rsend; rw [if_neg (by simp [he])]
  rw [hsend] at hQ'
  clear hQ hsend
  generalize (bgn R now).2 = R1 at h1 ho1 hl1 hQ'
  obtain ⟨p, cc, rfl⟩ := hb.shape
  have hln := ho1.len
  simp only [len_29, Ok2_some, Ok_some, bin_lss, bin_gtr, Br_dec]
  refine ⟨fun h0 => ?_, fun h0 => ⟨fun h15 => ?_, fun h15 => ?_⟩⟩
  · exact hQ' _ _ _ _ _ (by unfold rsendB; rw [if_pos (.inl (by omega))]) ⟨_, _, h1.up (.refl _ _)⟩ (.nil _) (.refl _ _)
  · exact hQ' _ _ _ _ _ (by unfold rsendB; rw [if_pos (.inr (by omega))]) ⟨_, _, h1.up (.refl _ _)⟩ (.nil _) (.refl _ _)
  have hsb : ¬ (bs.length = 0 ∨ 1500 < bs.length) := by omega
  have hroom : ∀ {a1 a2 : Prop}, thr to R1.all = false → srS (Z ext) (.pointer (some ⟨c, 0, none⟩)) (.int .u32 to) (.slice p bs.length cc) (.int .i64 now) Q H1 := by
    intro _ _ hth
    refine sr h1 (by omega) ho1.mac ho1.ip ⟨ho1.lost, by omega⟩ ht hb1 hbf (by omega) fun fv H' A fs e hs a1 a2 a3 => hQ' fv e A fs H' ?_ a1 a2 a3
    unfold rsendB
    rw [if_neg hsb, hth]
    exact hs
  refine C_mono (c45 h1 to (by omega)) ?_
  rintro _ _ ⟨rfl, rfl⟩
  simp only [extract_mk, getN_zero, getN_succ, Ok_some]
  cases hth : thr to R1.all with
  | false =>
    simp only [Br_false]
    exact hroom (a1 := True) (a2 := True) hth
  | true =>
    have hpl := thr_lt hth
    obtain ⟨a, ha⟩ : ∃ a, R1.all[plc to R1.all]? = some a := ⟨_, List.getElem?_eq_getElem hpl⟩
    have hsB : rsendB R1 to bs now = if a.2.known = true then (R1, [frameB a.2.mac R1.mac 2048 bs], 0)
      else if 4 ≤ a.2.wait.length then ({ R1 with lost := R1.lost + 1 }, [], 10)
      else ({ R1 with all := ins (a.1, { a.2 with wait := a.2.wait ++ [bs] }) R1.all }, [], 0) := by
      unfold rsendB; rw [if_neg hsb, hth, if_pos rfl, ha]
    rw [hsB] at hQ'
    have hen := ho1.ens a (List.mem_of_getElem? ha)
    obtain ⟨wv, hx, hw⟩ := h1.get ha
    obtain ⟨b, hb', -, hbg⟩ := h1.lv_ptr hx
    have hlen := h1.len
    obtain ⟨wvs, pw, cw, hwe, hwc, hwB⟩ := hw.ex
    have hcell := h1.cell
    have hsw := sw (Q := Q) h1 (by omega) ha (by have := hen.wait; omega) hb1 (by omega) (by omega)
    generalize plc to R1.all = i at *
    have hii : (0 : Int) ≤ i ∧ (i : Int) < es.length := by omega
    have e1 : (i : Int).toNat * 6 + 1 = i * 6 + 1 := by omega
    have e2 : (i : Int).toNat * 6 + 2 = i * 6 + 2 := by omega
    have e5 : (i : Int).toNat * 6 + 5 = i * 6 + 5 := by omega
    rw [hb'] at hcell
    simp only [Br_true, nilCheck_ptr, Ok_some, FA_ptr, Ld1_ptr, rd1_own hcell, getN_zero, getN_succ, Nat.zero_add, IA_slice, e1, e2, e5, rd1_own hbg, getN_ents hx (show 1 < 6 by omega), getN_ents hx (show 2 < 6 by omega), getN_ents hx (show 5 < 6 by omega), entC, List.getElem?_cons_zero, List.getElem?_cons_succ]
    refine ⟨hii, ?_⟩
    rw [Br_bool]
    refine ⟨fun hk => ⟨hii, ?_⟩, fun hk => ⟨hii, ?_⟩⟩
    · refine C_mono (c46 hcell ho1.mac (by have := hen.mac; omega) hb1 (by omega)) ?_
      rintro f H2 ⟨f2, E2⟩
      rw [bsl_34_1 f (by obtain ⟨b, rfl, -⟩ := f2; simp), Ok2_some]
      have E3 : Ext H1 (H2.alloc (.cells [f] 29)) := E2.trans (.alloc _ _ _)
      exact hQ' _ _ _ _ _ (by rw [if_pos hk]) ⟨_, _, h1.up E3⟩ (Frs.one f2 (fun _ _ h => h)) (E3.mono fun _ _ h => h.elim)
    · subst hwe
      simp only [len_34, Ok2_some, bin_geq, Ok_some, Br_dec, rd1_own hcell, getN_zero, getN_succ, bin_add]
      refine ⟨fun h4 => ?_, fun h4 => ?_⟩
      · rw [wrap_i64 (by have := ho1.lost; omega)]
        refine h1.lost fun H2 h2 k2 => ?_
        exact hQ' _ _ _ _ _ (by rw [if_neg (by simp [hk]), if_pos (by omega)]) ⟨_, _, h2⟩ (.nil _) k2
      · have := hsw fun H2 a1 a2 => hQ' _ _ _ _ _ (by rw [if_neg (by simp [hk]), if_neg (by omega)]) a1 (.nil _) a2
        simpa only [swS, nilCheck_ptr, Ok_some, FA_ptr, Ld1_ptr, LdN_ptr, Nat.zero_add, rd1_own hcell, getN_zero, getN_succ, IA_slice] using this

/-- New. -/
theorem c32 (mac ip : Int) : C (Z ext) 32 [.int .u64 mac, .int .u32 ip] H fun r H' => (281474976710655 ≤ mac ∧ r = .tuple #[.pointer none, .int .i64 2] ∧ H = H') ∨ (mac < 281474976710655 ∧ ∃ c lv, r = .tuple #[.pointer (some ⟨c, 0, none⟩), .int .i64 0] ∧
      RA ext H' (fun b => H.next ≤ b ∧ b < H'.next) c ⟨mac, ip, 0, [], 0⟩ lv [] ∧ Ext H H') := by
  refine C_all fun Q hQ => ?_
  apply w32_ok rfl
  simp only [w32, bin_geq, Ok_some, Br_dec, build_59_01, one_int, Al_eq, cellsOf_agg]
  refine ⟨fun h => hQ _ _ (.inl ⟨h, rfl, rfl⟩), fun h => hQ _ _ (.inr ⟨by omega, H.next, .slice none 0 0, rfl, ⟨by simp, .nil _ _ _ _, by simp [ob], rfl, by simp, by simp, by simp, fun b hb => hb.2⟩, .alloc _ _ _⟩)⟩

end Ev
end Go.Proofs.Ytglkgmomnbdkoaa

/- The document's cache: Take. -/
namespace Go.Proofs.Ytglkgmomnbdkoaa
namespace Ev
variable {ext : Nat → Nat → Option Value} {H : Heap} {fp : Nat → Prop} {c : Nat} {R : Ca} {lv : Value} {es : List ((Int × En) × Value)}

/-- Frames, behind their slices. -/
def FV (ext : Nat → Nat → Option Value) (H : Heap) (v : Value) (fs : List (List Int)) : Prop :=
  ∃ H0 vs p c, v = .slice p fs.length c ∧ cellsAt (Z ext) H fs.length v = some vs ∧ FrL H0 H (fun _ => False) none vs fs

theorem FrL.any {H0 : Heap} {fp : Nat → Prop} {o : Option Nat} : ∀ {vs : List Value} {fs : List (List Int)}, FrL H0 H fp o vs fs → FrL H0 H (fun _ => False) none vs fs
  | [], [], _ => trivial
  | _ :: _, _ :: _, h => ⟨⟨h.1.1, fun b _ => ⟨id, by simp⟩⟩, FrL.any h.2⟩
  | [], _ :: _, h => h.elim
  | _ :: _, [], h => h.elim

theorem Frs.fv {H0 : Heap} {fp : Nat → Prop} {v : Value} {fs : List (List Int)} (h : Frs ext H0 H fp v fs) : FV ext H v fs := by
  obtain ⟨⟨vs, p, c, e1, e2, e3⟩, -⟩ := h
  exact ⟨H0, vs, p, c, e1, e2, e3.any⟩

/-- Frames that are gathered; none of them lies in fp. -/
def Gat (fp : Nat → Prop) (H0 H : Heap) (x : Value) (fs : List (List Int)) : Prop :=
  ∃ vs, Own H x 1 fs.length vs 29 ∧ (∀ b, ob x = some b → H0.next ≤ b ∧ ¬ fp b) ∧ FrL H0 H fp (ob x) vs fs

theorem Gat.nil (fp : Nat → Prop) (H0 H : Heap) (p : Option Addr) : Gat fp H0 H (.slice p 0 0) [] := ⟨[], .nil _ _ _ _, by cases p <;> simp [ob, unk], trivial⟩

theorem Gat.kp {fp : Nat → Prop} {H0 H' : Heap} {S : Nat → Prop} {x : Value} {fs : List (List Int)} (h : Gat fp H0 H x fs) (hk : Kp S H H') (hS : ∀ b, H0.next ≤ b → b < H.next → ¬ fp b → ¬ S b) : Gat fp H0 H' x fs := by
  obtain ⟨vs, h1, h2, h3⟩ := h
  exact ⟨vs, h1.kp hk fun b hb => hS b (h2 b hb).1 (h1.ob_lt hb) (h2 b hb).2, h2, h3.kp hk (fun b a1 a2 a3 _ => hS b a1 a2 a3) fun _ _ h => h⟩

theorem FrL.refp {H0 : Heap} {fp fp' : Nat → Prop} {o : Option Nat} (hf : ∀ b, b < H.next → fp' b → fp b) : ∀ {vs : List Value} {fs : List (List Int)}, FrL H0 H fp o vs fs → FrL H0 H fp' o vs fs
  | [], [], _ => trivial
  | _ :: _, _ :: _, h => ⟨⟨h.1.1, fun b hb => ⟨fun hh => (h.1.2 b hb).1 (hf b (h.1.1.bk hb).2.1 hh), (h.1.2 b hb).2⟩⟩, FrL.refp hf h.2⟩
  | [], _ :: _, h => h.elim
  | _ :: _, [], h => h.elim

theorem Gat.refp {fp fp' : Nat → Prop} {H0 : Heap} {x : Value} {fs : List (List Int)} (h : Gat fp H0 H x fs) (hf : ∀ b, b < H.next → fp' b → fp b) : Gat fp' H0 H x fs := by
  obtain ⟨vs, h1, h2, h3⟩ := h
  exact ⟨vs, h1, fun b hb => ⟨(h2 b hb).1, fun hh => (h2 b hb).2 (hf b (h1.ob_lt hb) hh)⟩, h3.refp hf⟩

theorem Gat.fv {fp : Nat → Prop} {H0 : Heap} {x : Value} {fs : List (List Int)} (h : Gat fp H0 H x fs) : FV ext H x fs := by
  obtain ⟨vs, h1, h2, h3⟩ := h
  obtain ⟨p, c, e⟩ := h1.len
  have := h1.cells (X := Z ext)
  rw [Nat.mul_one] at this
  exact ⟨H0, vs, p, c, e, this, h3.any⟩

theorem Gat.ob_lt {fp : Nat → Prop} {H0 : Heap} {x : Value} {fs : List (List Int)} (h : Gat fp H0 H x fs) {b : Nat} (hb : ob x = some b) : H0.next ≤ b ∧ b < H.next ∧ ¬ fp b := by
  obtain ⟨vs, h1, h2, h3⟩ := h
  exact ⟨(h2 b hb).1, h1.ob_lt hb, (h2 b hb).2⟩

theorem Gat.down {fp : Nat → Prop} {H0 H1 : Heap} {x : Value} {fs : List (List Int)} (h : Gat fp H1 H x fs) (hle : H0.next ≤ H1.next) : Gat fp H0 H x fs := by
  obtain ⟨vs, h1, h2, h3⟩ := h
  exact ⟨vs, h1, fun b hb => by have := h2 b hb; exact ⟨by omega, this.2⟩, h3.down hle⟩

/-- One more frame is gathered. -/
theorem gpush {fp : Nat → Prop} {H0 Hf : Heap} {x f : Value} {fs : List (List Int)} {fb : List Int} {K : Value → Heap → Prop} (h : Gat fp H0 H x fs) (hf : Fr Hf H f fb) (hle : H0.next ≤ Hf.next) (hff : ∀ b, bk f = some b → ob x ≠ some b ∧ ¬ fp b) (hfp : ∀ b, fp b → b < H.next) (hl : fs.length ≤ 1000)
    (k : ∀ v' H', Gat fp H0 H' v' (fs ++ [fb]) → Kp (fun b => ob x = some b) H H' → K v' H') :
    Ok2 (buildSlice (Z ext) H 34 1 [(0, f)]) fun v H1 => Ok2 (builtin (Z ext) H1 .append [34, 34] [x, v]) K := by
  obtain ⟨vs, h1, h2, h3⟩ := h
  have hf := hf.down hle
  have hfe := hf
  obtain ⟨b, hfv, hb1, hb2, hb3⟩ := hfe
  have hbk : bk f = some b := by rw [hfv]; rfl
  rw [bsl_34_1 f (by rw [hfv]; simp), Ok2_some]
  have E1 : Ext H (H.alloc (.cells [f] 29)) := .alloc _ _ _
  obtain ⟨v', H', e', o', k', hob⟩ := app34 (ext := ext) (h1.kp E1 (fun _ _ => id)) (xs := [f]) (x := .slice (some ⟨H.next, 0, none⟩) 1 1) (nx := 1) ⟨_, _, rfl⟩ (by rw [cellsAt_own (Heap.get_alloc_self _ _) (by simp)]; rfl) (by rw [hfv]; simp) rfl (by omega)
  rw [e', Ok2_some]
  rcases hob with ⟨-, -, -, h0⟩ | ⟨-, n', -, rfl⟩
  · cases h0
  have hk : Kp (fun b => ob x = some b) H H' := (E1.mono fun _ _ h => h.elim).then k' fun _ _ h => h
  have hob' : ob (.slice (some ⟨(H.alloc (.cells [f] 29)).next, 0, none⟩) (fs.length + 1) (unk + 1)) = some (H.next + 1) := by simp [ob]
  refine k _ _ ⟨vs ++ [f], by simpa using o', fun c hc => ?_, ?_⟩ hk
  · rw [hob'] at hc; cases hc
    exact ⟨by omega, fun hh => by have := hfp _ hh; omega⟩
  · rw [hob']
    refine (FrL.kp hk (fun c a1 a2 _ a4 hh => a4 hh) (fun c hc _ => by intro e; cases e; omega) h3).append ⟨⟨⟨b, hfv, hb1, Nat.lt_of_lt_of_le hb2 hk.le, ?_⟩, fun c hc => ?_⟩, trivial⟩
    · rw [hk.get b hb2 (hff b hbk).1, hb3]
    · rw [hbk] at hc; cases hc
      exact ⟨(hff b hbk).2, by intro e; cases e; omega⟩

/-! Take -/
def rlearn (R : Ca) (a : Ar) (now : Int) : Ca := { R with all := ins (a.fi, ⟨true, a.fm, now, 0, []⟩) R.all }

def rtakeS (R : Ca) (a : Ar) (now : Int) : Ca :=
  if thr a.fi R.all = true then rlearn R a now
  else if a.ti = R.ip then (if (rroom R).1 = true then rlearn (rroom R).2 a now else (rroom R).2) else R

def rtakeF (R : Ca) (a : Ar) : List (List Int) := match (if thr a.fi R.all = true then R.all[plc a.fi R.all]? else none) with
  | some x => x.2.wait.map (frameB a.fm R.mac 2048)
  | none => []

def rtakeB (R : Ca) (a : Ar) (now : Int) : Ca × List (List Int) × Int :=
  if a.fi = R.ip ∨ 281474976710655 ≤ a.fm then (R, [], 12)
  else (rtakeS R a now, rtakeF R a ++ (if a.op = 1 ∧ a.ti = R.ip then [frameB a.fm R.mac 2054 (arpB 2 R.mac R.ip a.fm a.fi)] else []), 0)

def rtake (R : Ca) (a : Ar) (now : Int) : Ca × List (List Int) × Int :=
  if (bgn R now).1 ≠ 0 then ((bgn R now).2, [], (bgn R now).1) else rtakeB (bgn R now).2 a now

theorem c35 (h : RA ext H fp c R lv es) (ho : CaOk R) {a : Ar} (ha : ArOk a) (now : Int) :
    C (Z ext) 35 [.pointer (some ⟨c, 0, none⟩), .agg ⟨a.cells⟩, .int .i64 now] H fun r H' => ∃ fv, r = .tuple #[fv, .int .i64 (rtake R a now).2.2] ∧ (∃ lv' es', RA ext H' (gr fp H H') c (rtake R a now).1 lv' es') ∧
      FV ext H' fv (rtake R a now).2.1 ∧ Kp (fun b => b = c) H H' := by
  refine C_all fun Q hQ => ?_
  apply w35_ok rfl
  simp only [w35, Al_eq, cellsOf_agg]
  have E1 : Ext H (H.alloc (.cells a.cells 31)) := .alloc _ _ _
  have hav : (H.alloc (.cells a.cells 31)).get H.next = some (.cells a.cells 31) := by simp
  have hn1 : (H.alloc (.cells a.cells 31)).next = H.next + 1 := by simp
  generalize H.alloc (.cells a.cells 31) = H1 at E1 hav hn1 ⊢
  have h1 := h.kp E1 fun _ _ => id
  have hc := h.clt
  refine C_mono (c44 h1 now) ?_
  rintro _ H2 ⟨rfl, h2, k2, n2⟩
  have ho2 := bgn_ok ho now
  have hav2 : H2.get H.next = _ := (k2.get _ (by omega) (by omega)).trans hav
  have hQ' : ∀ (fv : Value) (e : Int) (A : Ca) (fs : List (List Int)) (H' : Heap), rtake R a now = (A, fs, e) → (∃ lv' es', RA ext H' (gr fp H2 H') c A lv' es') → FV ext H' fv fs → Kp (fun b => b = c) H2 H' → Q (.tuple #[fv, .int .i64 e]) H' := by
    intro fv e A fs H' hs a1 a2 a3
    rw [hs] at hQ
    refine hQ _ _ ⟨fv, rfl, ?_, a2, ((E1.mono fun _ _ h => h.elim).trans k2).trans a3⟩
    obtain ⟨l', e', a1⟩ := a1
    have := a3.le
    refine ⟨l', e', a1.more (fun b hb => ?_) fun b hb => ?_⟩
    · rcases hb with hb | hb
      · exact .inl hb
      · exact .inr ⟨by omega, hb.2⟩
    · rcases hb with hb | hb
      · have := h.lt b hb; omega
      · exact hb.2
  simp only [bin_neq, Ok_some, Br_ndec]
  refine ⟨fun he => ?_, fun he => ?_⟩
  · exact hQ' _ _ _ _ _ (by unfold rtake; rw [if_pos he]) ⟨_, _, h2.up (.refl _ _)⟩ (Frs.nil (H0 := H2) (fun _ => False)).fv (.refl _ _)
  have hre : rtake R a now = rtakeB (bgn R now).2 a now := by unfold rtake; rw [if_neg (by simp [he])]
  rw [hre] at hQ'
  clear hQ hre
  generalize (bgn R now).2 = R1 at h2 ho2 hQ'
  simp only [nilCheck_ptr, Ok_some, FA_ptr, Ld1_ptr, rd1_own hav2, Ar.cells, rd1_own h2.cell, getN_zero, getN_succ, Nat.zero_add, bin_eql, bin_geq, Br_dec]
  refine ⟨fun hip => ?_, fun hip => ⟨fun hfm => ?_, fun hfm => ?_⟩⟩
  · exact hQ' _ _ _ _ _ (by unfold rtakeB; rw [if_pos (.inl hip)]) ⟨_, _, h2.up (.refl _ _)⟩ (Frs.nil (H0 := H2) (fun _ => False)).fv (.refl _ _)
  · exact hQ' _ _ _ _ _ (by unfold rtakeB; rw [if_pos (.inr hfm)]) ⟨_, _, h2.up (.refl _ _)⟩ (Frs.nil (H0 := H2) (fun _ => False)).fv (.refl _ _)
  have hB : rtakeB R1 a now = (rtakeS R1 a now, rtakeF R1 a ++ (if a.op = 1 ∧ a.ti = R1.ip then [frameB a.fm R1.mac 2054 (arpB 2 R1.mac R1.ip a.fm a.fi)] else []), 0) := by
    unfold rtakeB; rw [if_neg (by omega)]
  rw [hB] at hQ'
  clear hB
  have hm := ho2.mac
  have hi := ho2.ip
  have hfm2 := ha.fm
  have hln := ho2.len
  have E3 : Ext H2 (H2.alloc (.cells [] 29)) := .alloc _ _ _
  rw [bsl_34_0, Ok2_some]
  have hav3 : (H2.alloc (.cells [] 29)).get H.next = some (.cells a.cells 31) := (E3.get' (by omega)).trans hav2
  have g0 : Gat (fun _ => False) H2 (H2.alloc (.cells [] 29)) (.slice (some ⟨H2.next, 0, none⟩) 0 0) [] := .nil _ _ _ _
  have h3 := h2.kp E3 fun _ _ => id
  have hn3 : H2.next ≤ (H2.alloc (.cells [] 29)).next := E3.le
  generalize H2.alloc (.cells [] 29) = H3 at E3 hav3 g0 h3 hn3 ⊢
  simp only [rd1_own hav3, Ar.cells, getN_zero, getN_succ, Ok_some]
  refine C_mono (c45 h3 a.fi (by omega)) ?_
  rintro _ _ ⟨rfl, rfl⟩
  simp only [extract_mk, getN_zero, getN_succ, Ok_some]
  intro P45 hP45
  -- what comes behind the frames of what waited
  have hend : ∀ x H4, Gat (fun _ => False) H2 H4 x (rtakeF R1 a) → (rtakeF R1 a).length ≤ 100 → Ext H3 H4 → P45 [x] H4 := by
    intro x H4 hG hGl E4
    refine hP45 _ _ ?_
    intro P48 hP48
    have h4 := h3.kp E4 fun _ _ => id
    have hav4 : H4.get H.next = some (.cells a.cells 31) := (E4.get' (by omega)).trans hav3
    have hle4 := E4.le
    have hfin : ∀ H5 lv5 es5, RA ext H5 (gr fp H4 H5) c (rtakeS R1 a now) lv5 es5 → Kp (fun b => b = c) H4 H5 → (rtakeS R1 a now).mac = R1.mac → (rtakeS R1 a now).ip = R1.ip → P48 [] H5 := by
      intro H5 lv5 es5 h5 k5 e1 e2
      refine hP48 _ ?_
      have hav5 : H5.get H.next = some (.cells a.cells 31) := (k5.get _ (by omega) (by omega)).trans hav4
      have h5c := h5.cell
      have hle5 := k5.le
      rw [e1, e2] at h5c
      have hG5 := hG.kp k5 fun b hb _ _ he => by have := h2.clt; omega
      have k25 : Kp (fun b => b = c) H2 H5 := ((E3.trans E4).mono fun _ _ h => h.elim).trans k5
      have hup : ∀ H6, RA ext H6 (gr fp H4 H5) c (rtakeS R1 a now) lv5 es5 → H5.next ≤ H6.next → ∃ lv' es', RA ext H6 (gr fp H2 H6) c (rtakeS R1 a now) lv' es' := by
        intro H6 h6 hle6
        refine ⟨lv5, es5, h6.more (fun b hb => ?_) fun b hb => ?_⟩
        · rcases hb with hb | hb
          · exact .inl hb
          · exact .inr ⟨by omega, by omega⟩
        · rcases hb with hb | hb
          · have := h2.lt b hb; omega
          · exact hb.2
      simp only [nilCheck_ptr, Ok_some, FA_ptr, Ld1_ptr, rd1_own hav5, Ar.cells, rd1_own h5c, getN_zero, getN_succ, Nat.zero_add, bin_eql, Br_dec]
      refine ⟨fun hop => ⟨fun hti => ?_, fun hti => ?_⟩, fun hop => ?_⟩
      · refine C_mono (c49 h5c h5.clt hm hi (by omega) (by omega) (by omega) ha.fi) ?_
        rintro f H6 ⟨f6, E6⟩
        have hle6 := E6.le
        have hG6 := hG5.kp E6 fun _ _ _ _ => id
        refine gpush (ext := ext) hG6 f6 (by omega) (fun b hb => ⟨fun he => ?_, id⟩) (fun _ h => h.elim) (by omega) ?_
        · have h7 := (f6.bk hb).1
          have h8 := (hG5.ob_lt he).2.1
          omega
        intro v' H7 hG7 k7
        have h7 : RA ext H7 (gr fp H4 H5) c (rtakeS R1 a now) lv5 es5 := (h5.kp E6 fun _ _ => id).kp k7 fun b hb he => by
          have h8 := hG.ob_lt he
          rcases hb with hb | hb
          · have := h2.lt b hb; omega
          · omega
        refine hQ' _ _ _ _ _ (by rw [if_pos ⟨hop, hti⟩]) (hup H7 h7 (by have := k7.le; omega)) hG7.fv ((k25.trans (E6.mono fun _ _ h => h.elim)).then k7 fun b hb he => ?_)
        have h8 := hG.ob_lt he
        omega
      · exact hQ' _ _ _ _ _ (by rw [if_neg (fun hh => hti hh.2), List.append_nil]) (hup H5 h5 (Nat.le_refl _)) hG5.fv k25
      · exact hQ' _ _ _ _ _ (by rw [if_neg (fun hh => hop hh.1), List.append_nil]) (hup H5 h5 (Nat.le_refl _)) hG5.fv k25
    have hw0 : ∀ (Hx : Heap) (fq : Nat → Prop), WAt ext Hx (fun b => fq b ∧ b ≠ c) (.slice none 0 0) ([] : List (List Int)) := fun _ _ => .nil _
    obtain ⟨sm, si, sl, so, sn⟩ := rroom_same R1
    cases hth : thr a.fi R1.all with
    | true =>
      have hS : rtakeS R1 a now = rlearn R1 a now := by unfold rtakeS; rw [if_pos hth]
      rw [hS] at hfin
      simp only [Br_true, nilCheck_ptr, Ok_some, FA_ptr, Ld1_ptr, rd1_own hav4, Ar.cells, getN_zero, getN_succ, Nat.zero_add, build_86_0123, one_int, one_bool]
      refine C_mono (c47 (a := (a.fi, ⟨true, a.fm, now, 0, []⟩)) (wv := .slice none 0 0) h4 (by omega) (.nil _)) ?_
      rintro _ H5 ⟨lv5, es5, h5, k5⟩
      exact hfin H5 lv5 es5 h5 k5 rfl rfl
    | false =>
      simp only [Br_false, nilCheck_ptr, Ok_some, FA_ptr, Ld1_ptr, rd1_own hav4, Ar.cells, rd1_own h4.cell, getN_zero, getN_succ, Nat.zero_add, bin_eql, Br_dec]
      refine ⟨fun hti => ?_, fun hti => ?_⟩
      · refine C_mono (c48 h4 (by omega)) ?_
        rintro _ H5 ⟨rfl, ⟨lv5, es5, h5⟩, k5⟩
        have hav5 : H5.get H.next = some (.cells a.cells 31) := (k5.get _ (by omega) (by omega)).trans hav4
        rw [Br_bool]
        refine ⟨fun hr => ?_, fun hr => ?_⟩
        · have hS : rtakeS R1 a now = rlearn (rroom R1).2 a now := by unfold rtakeS; rw [if_neg (by simp [hth]), if_pos hti, if_pos hr]
          rw [hS] at hfin
          simp only [FA_ptr, Ld1_ptr, Nat.zero_add, rd1_own hav5, Ar.cells, getN_zero, getN_succ, Ok_some, build_86_0123, one_int, one_bool]
          refine C_mono (c47 (a := (a.fi, ⟨true, a.fm, now, 0, []⟩)) (wv := .slice none 0 0) h5 (by omega) (.nil _)) ?_
          rintro _ H6 ⟨lv6, es6, h6, k6⟩
          exact hfin H6 lv6 es6 (RA.widen h6 h4.lt k5.le k6.le) (k5.trans k6) sm si
        · have hS : rtakeS R1 a now = (rroom R1).2 := by unfold rtakeS; rw [if_neg (by simp [hth]), if_pos hti, if_neg (by simp [hr])]
          rw [hS] at hfin
          exact hfin H5 lv5 es5 h5 k5 sm si
      · have hS : rtakeS R1 a now = R1 := by unfold rtakeS; rw [if_neg (by simp [hth]), if_neg hti]
        rw [hS] at hfin
        exact hfin H4 lv es (h4.up (.refl _ _)) (.refl _ _) rfl rfl
  cases hth : thr a.fi R1.all with
  | false =>
    have hF : rtakeF R1 a = [] := by unfold rtakeF; rw [if_neg (by simp [hth])]
    simp only [Br_false]
    exact hend _ _ (by rw [hF]; exact g0) (by rw [hF]; simp) (.refl _ _)
  | true =>
    have hpl := thr_lt hth
    obtain ⟨x, hx⟩ : ∃ x, R1.all[plc a.fi R1.all]? = some x := ⟨_, List.getElem?_eq_getElem hpl⟩
    have hF : rtakeF R1 a = x.2.wait.map (frameB a.fm R1.mac 2048) := by unfold rtakeF; rw [if_pos hth, hx]
    have hen := ho2.ens x (List.mem_of_getElem? hx)
    have hwl := hen.wait
    rw [hF] at hend
    simp only [Br_true]
    intro P hP
    obtain ⟨wv, hxe, hw⟩ := h3.get hx
    obtain ⟨bl, hlv, hbl, hbg⟩ := h3.lv_ptr hxe
    have hlen := h3.len
    obtain ⟨vs, pw, cw, hwe, hwc, hwB⟩ := hw.ex
    have hcell := h3.cell
    rw [hlv] at hcell
    generalize plc a.fi R1.all = p at *
    have hii : (0 : Int) ≤ p ∧ (p : Int) < es.length := by omega
    have e5 : (p : Int).toNat * 6 + 5 = p * 6 + 5 := by omega
    refine loop_up x.2.wait.length (fun i vs' H' => ∃ y, vs' = [y, .int .i64 i] ∧ Gat (fun _ => False) H3 H' y ((x.2.wait.take i).map (frameB a.fm R1.mac 2048)) ∧ Ext H3 H') ?_ ?_ (Nat.zero_le _) ⟨_, rfl, .nil _ _ _ _, .refl _ _⟩
    · rintro i _ H4 hi' ⟨y, rfl, hG, E4⟩ K
      refine hP _ _ _ ?_
      have hav4 : H4.get H.next = some (.cells a.cells 31) := (E4.get' (by omega)).trans hav3
      have hcell4 : H4.get c = _ := (E4.get' h3.clt).trans hcell
      have hbg4 : H4.get bl = _ := (E4.get' hbl).trans hbg
      have hle4 := E4.le
      cases pw with
      | none => rw [hwe] at hwc; have := (cellsAt_nil hwc).1; omega
      | some pa =>
        obtain ⟨pb, po, ps⟩ := pa
        subst hwe
        have hc1 := cellsAt_kp E4 hwc (fun b hb => (hw.lt b hb).1) (fun _ _ => id)
        have hB1 := hwB.kp E4 (fun _ _ => id) (fun _ h => h)
        obtain ⟨bs, hbs⟩ : ∃ bs, x.2.wait[i]? = some bs := ⟨x.2.wait[i], List.getElem?_eq_getElem hi'⟩
        obtain ⟨u, hu, hub⟩ := hB1.get hbs
        have hrd := rd1_cellsAt hc1 hi'
        rw [hu] at hrd
        simp only at hrd
        have hbl2 := hen.body bs (List.mem_of_getElem? hbs)
        have e1 : po + (i : Int).toNat * 1 = po + i := by omega
        simp only [nilCheck_ptr, Ok_some, FA_ptr, Ld1_ptr, rd1_own hcell4, rd1_own hav4, Ar.cells, getN_zero, getN_succ, Nat.zero_add, IA_slice, e5, rd1_own hbg4, getN_ents hxe (show 5 < 6 by omega), entC, List.getElem?_cons_zero, List.getElem?_cons_succ, len_34, Ok2_some, bin_lss, Br_dec, e1, hrd]
        refine ⟨hii, fun _ => ⟨hii, by omega, ?_⟩, fun h => absurd (by omega) h⟩
        refine C_mono (c46 hcell4 hm (by omega) hub (by omega)) ?_
        rintro f H5 ⟨f5, E5⟩
        have hle5 := E5.le
        refine gpush (ext := ext) (hG.kp E5 fun _ _ _ _ => id) f5 (by omega) (fun b hb => ⟨fun he => ?_, id⟩) (fun _ h => h.elim) (by simp; omega) ?_
        · have h7 := (f5.bk hb).1
          have h8 := (hG.ob_lt he).2.1
          omega
        intro v' H6 hG6 k6
        simp only [bin_add, Ok_some]
        rw [wrap_i64 (by omega)]
        refine K _ _ ⟨v', by simp, ?_, ?_⟩
        · rw [List.take_add_one, hbs, List.map_append]; exact hG6
        · refine (E4.trans E5).then k6 fun b hb he => ?_
          have h8 := (hG.ob_lt he).1
          omega
    · rintro _ H4 ⟨y, rfl, hG, E4⟩
      refine hP _ _ _ ?_
      rw [List.take_length] at hG
      have hcell4 : H4.get c = _ := (E4.get' h3.clt).trans hcell
      have hbg4 : H4.get bl = _ := (E4.get' hbl).trans hbg
      subst hwe
      simp only [nilCheck_ptr, Ok_some, FA_ptr, Ld1_ptr, rd1_own hcell4, getN_zero, getN_succ, Nat.zero_add, IA_slice, e5, rd1_own hbg4, getN_ents hxe (show 5 < 6 by omega), entC, List.getElem?_cons_zero, List.getElem?_cons_succ, len_34, Ok2_some, bin_lss, Br_dec]
      exact ⟨hii, fun h => absurd h (by omega), fun _ => hend _ _ (hG.down hn3) (by simp; omega) E4⟩

end Ev
end Go.Proofs.Ytglkgmomnbdkoaa

/- The document's cache: Tick. -/
namespace Go.Proofs.Ytglkgmomnbdkoaa
namespace Ev
variable {ext : Nat → Nat → Option Value} {H : Heap} {fp : Nat → Prop} {c : Nat} {R : Ca} {lv : Value} {es : List ((Int × En) × Value)}

def tapS (X : Ctx) (a0 v10_40 : Value) (K : Heap → Prop) (H_60 : Heap) : Prop :=
 Ok (nilCheck a0) fun v82_63 =>
 FA v82_63 3 fun v83_64 =>
 Ld1 X H_60 v83_64 fun v84_65 =>
 LdN X H_60 v10_40 6 fun v85_66 =>
 Ok2 (buildSlice X H_60 57 1 [(0, v85_66)]) fun v86_67 H_68 =>
 Ok2 (builtin X H_68 .append [57, 57] [v84_65, v86_67]) fun v87_69 H_70 =>
 Ok (nilCheck a0) fun v88_71 =>
 FA v88_71 3 fun v89_72 =>
 St H_70 v89_72 1 v87_69 fun H_74 => K H_74

def tapR (X : Ctx) (c xb : Nat) (K : Heap → Prop) (H_60 : Heap) : Prop :=
 Ok (rd1 X H_60 ⟨c, 3, none⟩) fun v84_65 =>
 LdN X H_60 (.pointer (some ⟨xb, 0, none⟩)) 6 fun v85_66 =>
 Ok2 (buildSlice X H_60 57 1 [(0, v85_66)]) fun v86_67 H_68 =>
 Ok2 (builtin X H_68 .append [57, 57] [v84_65, v86_67]) fun v87_69 H_70 =>
 St H_70 (.pointer (some ⟨c, 3, none⟩)) 1 v87_69 fun H_74 => K H_74

theorem tapR_of {X : Ctx} {c xb : Nat} {K : Heap → Prop} (h : tapS X (.pointer (some ⟨c, 0, none⟩)) (.pointer (some ⟨xb, 0, none⟩)) K H) : tapR X c xb K H := by
  simp only [tapS, nilCheck_ptr, Ok_some, FA_ptr, Ld1_ptr, Nat.zero_add] at h
  exact h

/-- The cache while its list is made anew: fp are its blocks of before. -/
structure TA (ext : Nat → Nat → Option Value) (H0 H : Heap) (fp : Nat → Prop) (c : Nat) (R : Ca) (lv : Value) (es : List ((Int × En) × Value)) : Prop where
  cell : H.get c = some (.cells [.int .u64 R.mac, .int .u32 R.ip, .int .i64 R.last, lv, .int .i64 R.lost] 59)
  own : Own H lv 6 es.length (entsC es) 86
  new : ∀ b, ob lv = some b → H0.next ≤ b
  all : es.map (·.1) = R.all
  wt : ∀ x ∈ es, WAt ext H (fun b => fp b ∧ b ≠ c) x.2 x.1.2.wait
  fc : fp c
  lt : ∀ b, fp b → b < H0.next
  le : H0.next ≤ H.next

theorem TA.kp {S : Nat → Prop} {H0 H' : Heap} (h : TA ext H0 H fp c R lv es) (hk : Kp S H H') (hc : ¬ S c) (hS : ∀ b, fp b → b ≠ c → ¬ S b) (ho : ∀ b, ob lv = some b → ¬ S b) : TA ext H0 H' fp c R lv es :=
  ⟨by rw [hk.get c (Nat.lt_of_lt_of_le (h.lt c h.fc) h.le) hc, h.cell], h.own.kp hk ho, h.new, h.all, fun x hx => (h.wt x hx).kp hk (fun b hb => hS b hb.1 hb.2) (fun _ h => h), h.fc, h.lt, Nat.le_trans h.le hk.le⟩

theorem TA.ra {H0 : Heap} (h : TA ext H0 H fp c R lv es) : RA ext H (gr fp H0 H) c R lv es :=
  ⟨h.cell, h.own, fun b hb => ⟨.inr ⟨h.new b hb, h.own.ob_lt hb⟩, by have := h.new b hb; have := h.lt c h.fc; omega⟩, h.all, fun x hx => (h.wt x hx).kp (.refl (fun _ => False) H) (fun _ _ => id) (fun b hb => ⟨.inl hb.1, hb.2⟩), Nat.lt_of_lt_of_le (h.lt c h.fc) h.le, .inl h.fc,
    fun b hb => by
      rcases hb with hb | hb
      · exact Nat.lt_of_lt_of_le (h.lt b hb) h.le
      · exact hb.2⟩

/-- A neighbour stays. -/
theorem tap {H0 : Heap} (h : TA ext H0 H fp c R lv es) (hl : R.all.length ≤ 1000) {y : Value} {fs : List (List Int)} (hG : Gat (fun b => ob lv = some b) H0 H y fs)
    {xb : Nat} {a : Int × En} {wv : Value} (hx : H.get xb = some (.cells (entC (a, wv)) 86)) (hw : WAt ext H (fun b => fp b ∧ b ≠ c) wv a.2.wait) {K : Heap → Prop}
    (k : ∀ lv' es' H', TA ext H0 H' fp c { R with all := R.all ++ [a] } lv' es' → Gat (fun b => ob lv' = some b) H0 H' y fs → Kp (fun b => b = c ∨ ob lv = some b) H H' → K H') :
    tapS (Z ext) (.pointer (some ⟨c, 0, none⟩)) (.pointer (some ⟨xb, 0, none⟩)) K H := by
  have hent : entC (a, wv) = [.int .u32 a.1, .bool a.2.known, .int .u64 a.2.mac, .int .i64 a.2.at_, .int .i64 a.2.tries, wv] := rfl
  have hlen : es.length = R.all.length := by rw [← h.all]; simp
  simp only [tapS, nilCheck_ptr, Ok_some, FA_ptr, Ld1_ptr, rd1_own h.cell, getN_zero, getN_succ, Nat.zero_add, LdN_ptr, rdN_own hx]
  rw [show cutN 0 6 (entC (a, wv)) = some (entC (a, wv)) from cutN_all (entC (a, wv)), Ok_some, hent, bsl_57_1, Ok2_some]
  have E1 : Ext H (H.alloc (.cells [.int .u32 a.1, .bool a.2.known, .int .u64 a.2.mac, .int .i64 a.2.at_, .int .i64 a.2.tries, wv] 86)) := .alloc _ _ _
  obtain ⟨v2, H2, e2, o2, k2, hob2⟩ := app57 (ext := ext) (h.own.kp E1 fun _ _ => id) (x := .slice (some ⟨H.next, 0, none⟩) 1 1) (nx := 1) (xs := entC (a, wv)) ⟨_, _, rfl⟩ (by rw [cellsAt_own (Heap.get_alloc_self _ _) (by simp)]; rfl)
    (by simp [entC, hw.one]) rfl (by omega)
  rw [e2, Ok2_some]
  rcases hob2 with ⟨-, -, -, h0⟩ | ⟨hob2, n2, -, hv2⟩
  · cases h0
  simp only [Heap.next_alloc] at hob2 n2
  have k12 : Kp (fun b => ob lv = some b) H H2 := (E1.mono fun _ _ h => h.elim).then k2 fun _ _ h => h
  have hc0 := h.lt c h.fc
  have hle := h.le
  have hc : c < H.next := by omega
  have hc2 : H2.get c = _ := (k12.get c hc fun hh => by have := h.new c hh; omega).trans h.cell
  refine st_one' hc2 (by rw [hv2]; simp) (by simp) fun H3 n3 g3 k3 => ?_
  have k13 : Kp (fun b => b = c ∨ ob lv = some b) H H3 := (k12.mono fun _ _ h => .inr h).then k3 fun _ _ h => .inl h
  have hfr : ∀ b, fp b ∧ b ≠ c → ¬ (b = c ∨ ob lv = some b) := fun b hb hh => by
    rcases hh with hh | hh
    · exact hb.2 hh
    · have := h.lt b hb.1; have := h.new b hh; omega
  have hvb : ∀ b, ob v2 = some b → b = H.next + 1 := fun b hb => by rw [hob2] at hb; cases hb; rfl
  refine k v2 (es ++ [(a, wv)]) H3 ⟨g3, ?_, fun b hb => by have := hvb b hb; omega, by simp [h.all], fun x hx => ?_, h.fc, h.lt, by omega⟩ ?_ k13
  · have hcat : entsC es ++ entC (a, wv) = entsC (es ++ [(a, wv)]) := by rw [entsC_append]; simp [entsC]
    have hln : es.length + 1 = (es ++ [(a, wv)]).length := by simp
    rw [hcat, hln] at o2
    exact o2.kp k3 fun b hb he => by have := hvb b hb; omega
  · rcases List.mem_append.1 hx with hx | hx
    · exact (h.wt x hx).kp k13 hfr fun _ h => h
    · simp at hx; subst hx
      exact hw.kp k13 hfr fun _ h => h
  · have hG2 : Gat (fun b => ob lv = some b ∨ ob v2 = some b) H0 H y fs := hG.refp fun b b1 b2 => by
      rcases b2 with b2 | b2
      · exact b2
      · have := hvb b b2; omega
    refine (hG2.kp k13 fun b b1 b2 b3 hh => ?_).refp fun b _ b2 => .inr b2
    rcases hh with hh | hh
    · omega
    · exact b3 (.inl hh)

/-! Tick -/
def rtickF (now : Int) (s : Ca × List (List Int)) (a : Int × En) : Ca × List (List Int) :=
  if a.2.known = true then (if 600 ≤ now - a.2.at_ then s else ({ s.1 with all := s.1.all ++ [a] }, s.2))
  else if 10 ≤ now - a.2.at_ then
    (if 3 ≤ a.2.tries then ({ s.1 with lost := s.1.lost + a.2.wait.length }, s.2)
    else ({ s.1 with all := s.1.all ++ [(a.1, { a.2 with at_ := now, tries := a.2.tries + 1 })] }, s.2 ++ [frameB 281474976710655 s.1.mac 2054 (arpB 1 s.1.mac s.1.ip 0 a.1)]))
  else ({ s.1 with all := s.1.all ++ [a] }, s.2)

def rtickB (R : Ca) (now : Int) : Ca × List (List Int) := R.all.foldl (rtickF now) ({ R with all := [] }, [])

def rtick (R : Ca) (now : Int) : Ca × List (List Int) × Int :=
  if (bgn R now).1 ≠ 0 then ((bgn R now).2, [], (bgn R now).1) else ((rtickB (bgn R now).2 now).1, (rtickB (bgn R now).2 now).2, 0)

/-- What holds behind i neighbours. -/
structure RtI (R : Ca) (i : Nat) (s : Ca × List (List Int)) : Prop where
  mac : s.1.mac = R.mac
  ip : s.1.ip = R.ip
  last : s.1.last = R.last
  lost : R.lost ≤ s.1.lost ∧ s.1.lost ≤ R.lost + 4 * i
  len : s.2.length ≤ i
  all : s.1.all.length ≤ i

theorem RtI.step {R : Ca} {i : Nat} {s : Ca × List (List Int)} {now : Int} {a : Int × En} (h : RtI R i s) (ha : a.2.wait.length ≤ 4) : RtI R (i + 1) (rtickF now s a) := by
  obtain ⟨h1, h2, h3, h4, h5, h6⟩ := h
  unfold rtickF
  split
  · split
    · exact ⟨h1, h2, h3, by omega, by omega, by omega⟩
    · exact ⟨h1, h2, h3, by simp; omega, by simp; omega, by simp; omega⟩
  · split
    · split
      · exact ⟨h1, h2, h3, by simp; omega, by simp; omega, by simp; omega⟩
      · exact ⟨h1, h2, h3, by simp; omega, by simp; omega, by simp; omega⟩
    · exact ⟨h1, h2, h3, by simp; omega, by simp; omega, by simp; omega⟩

theorem RtI.take {R : Ca} (ho : CaOk R) (now : Int) : ∀ i, i ≤ R.all.length → RtI R i ((R.all.take i).foldl (rtickF now) ({ R with all := [] }, []))
  | 0, _ => ⟨rfl, rfl, rfl, by simp, by simp, by simp⟩
  | i + 1, hi => by
    have ih := RtI.take ho now i (by omega)
    have hk : R.all[i]? = some R.all[i] := List.getElem?_eq_getElem (by omega)
    rw [List.take_add_one, hk, List.foldl_append]
    exact ih.step (ho.ens _ (List.getElem_mem _)).wait

theorem c36 (h : RA ext H fp c R lv es) (ho : CaOk R) (hl : R.lost < 4611686018427387904) (now : Int) :
    C (Z ext) 36 [.pointer (some ⟨c, 0, none⟩), .int .i64 now] H fun r H' => ∃ fv, r = .tuple #[fv, .int .i64 (rtick R now).2.2] ∧ (∃ lv' es', RA ext H' (gr fp H H') c (rtick R now).1 lv' es') ∧
      FV ext H' fv (rtick R now).2.1 ∧ Kp (fun b => b = c) H H' := by
  refine C_all fun Q hQ => ?_
  apply w36_ok rfl
  simp only [w36]
  refine C_mono (c44 h now) ?_
  rintro _ H1 ⟨rfl, h1, k1, n1⟩
  have ho1 := bgn_ok ho now
  have hl1 := (bgn_lost R now).1
  have hc := h.clt
  have hQ' : ∀ (fv : Value) (e : Int) (A : Ca) (fs : List (List Int)) (H' : Heap), rtick R now = (A, fs, e) → (∃ lv' es', RA ext H' (gr fp H1 H') c A lv' es') → FV ext H' fv fs → Kp (fun b => b = c) H1 H' → Q (.tuple #[fv, .int .i64 e]) H' := by
    intro fv e A fs H' hs a1 a2 a3
    rw [hs] at hQ
    refine hQ _ _ ⟨fv, rfl, ?_, a2, k1.trans a3⟩
    obtain ⟨l', e', a1⟩ := a1
    refine ⟨l', e', ?_⟩
    unfold gr at a1 ⊢
    rw [← n1]
    exact a1
  simp only [bin_neq, Ok_some, Br_ndec]
  refine ⟨fun he => ?_, fun he => ?_⟩
  · exact hQ' _ _ _ _ _ (by unfold rtick; rw [if_pos he]) ⟨_, _, h1.up (.refl _ _)⟩ (Frs.nil (H0 := H1) (fun _ => False)).fv (.refl _ _)
  have hre : rtick R now = ((rtickB (bgn R now).2 now).1, (rtickB (bgn R now).2 now).2, 0) := by unfold rtick; rw [if_neg (by simp [he])]
  rw [hre] at hQ'
  have hnow := bgn_rng (S := R) (now := now) he
  clear hQ hre
  generalize (bgn R now).2 = R1 at h1 ho1 hl1 hQ'
  have hm := ho1.mac
  have hi := ho1.ip
  have hln := ho1.len
  have hlo := ho1.lost
  have hlen := h1.len
  have E2 : Ext H1 (H1.alloc (.cells [] 29)) := .alloc _ _ _
  rw [bsl_34_0, Ok2_some]
  have h2 := h1.kp E2 fun _ _ => id
  have hn2 : H1.next ≤ (H1.alloc (.cells [] 29)).next := E2.le
  have hn2' : (H1.alloc (.cells [] 29)).next = H1.next + 1 := by simp
  generalize H1.alloc (.cells [] 29) = H2 at E2 h2 hn2 hn2' ⊢
  simp only [nilCheck_ptr, Ok_some, FA_ptr, Ld1_ptr, rd1_own h2.cell, getN_zero, getN_succ, Nat.zero_add]
  refine st_one' h2.cell (by simp) (by simp) fun H3 n3 g3 k3 => ?_
  have hfb : ∀ b, fp b ∧ b ≠ c → ¬ b = c := fun b hb => hb.2
  have hc1 := h1.clt
  have hlt1 := h1.lt
  have hT3 : TA ext H3 H3 fp c { R1 with all := [] } (.slice none 0 0) [] := ⟨g3, .nil _ _ _ _, by simp [ob], rfl, by simp, h1.fc, fun b hb => by have := hlt1 b hb; omega, Nat.le_refl _⟩
  have hold3 : Own H3 lv 6 es.length (entsC es) 86 := h2.own.kp k3 fun b hb => (h2.ob b hb).2
  have hwt3 : ∀ x ∈ es, WAt ext H3 (fun b => fp b ∧ b ≠ c) x.2 x.1.2.wait := fun x hx => (h2.wt x hx).kp k3 (fun b hb => hb.2) fun _ h => h
  have k13 : Kp (fun b => b = c) H1 H3 := (E2.mono fun _ _ h => h.elim).trans k3
  intro P hP
  obtain ⟨lp, lc, hlv⟩ := h1.own.len
  refine loop_up R1.all.length (fun i vs H' => ∃ y lv' es', vs = [y, .int .i64 i] ∧ TA ext H3 H' fp c ((R1.all.take i).foldl (rtickF now) ({ R1 with all := [] }, [])).1 lv' es' ∧
    Gat (fun b => ob lv' = some b) H3 H' y ((R1.all.take i).foldl (rtickF now) ({ R1 with all := [] }, [])).2 ∧ Kp (fun b => b = c) H3 H') ?_ ?_ (Nat.zero_le _) ⟨_, _, _, rfl, hT3, .nil _ _ _ _, .refl _ _⟩
  · rintro i _ H4 hi' ⟨y, lv4, es4, rfl, hT, hG, k4⟩ K
    refine hP _ _ _ ?_
    have ha : R1.all[i]? = some R1.all[i] := List.getElem?_eq_getElem hi'
    generalize R1.all[i] = a at ha
    have hI := RtI.take ho1 now i (by omega)
    have hen := ho1.ens a (List.mem_of_getElem? ha)
    have hwl := hen.wait
    have hat := hen.at_
    have htr := hen.tries
    have hrg := ho1.rng a (List.mem_of_getElem? ha)
    have hI' := hI.step (now := now) hwl
    have hstep : (R1.all.take (i + 1)).foldl (rtickF now) ({ R1 with all := [] }, []) = rtickF now ((R1.all.take i).foldl (rtickF now) ({ R1 with all := [] }, [])) a := by
      rw [List.take_add_one, ha, List.foldl_append]; rfl
    rw [hstep] at K
    rw [← hstep] at hI'
    clear hI' 
    generalize (R1.all.take i).foldl (rtickF now) ({ R1 with all := [] }, []) = s at hT hG hI K
    clear hstep
    obtain ⟨wv, hx, -⟩ := h1.get ha
    have hw3 := hwt3 _ (List.mem_of_getElem? hx)
    have hw4 := hw3.kp k4 hfb fun _ h => h
    simp only at hw3 hw4
    obtain ⟨bl, hlvp, hbl1, -⟩ := h1.lv_ptr hx
    have hbl4 : H4.get bl = some (.cells (entsC es) 86) := by
      have hne : bl ≠ c := (h1.ob bl (by rw [hlvp]; simp [ob])).2
      rcases hold3.2 with ⟨h0, -⟩ | ⟨b', hb', hb'l, hb'g⟩
      · omega
      · rw [hlvp] at hb'; cases hb'
        rw [k4.get bl hb'l hne, hb'g]
    have hinc : wrapF .i64 ((i : Int) + 1) = ((i + 1 : Nat) : Int) := by rw [wrap_i64 (by omega)]; omega
    have e1 : (i : Int).toNat * 6 = i * 6 := by omega
    have hle4 := k4.le
    have hii : (0 : Int) ≤ i ∧ (i : Int) < es.length := by omega
    rw [hlvp]
    simp only [len_57, Ok2_some, bin_lss, Ok_some, Br_dec, IA_slice, Nat.zero_add, e1, LdN_ptr, rdN_own hbl4]
    refine ⟨fun _ => ⟨hii, ?_⟩, fun h => absurd hii.2 h⟩
    rw [cutN_of (by rw [entsC_len]; omega), entsC_cut hx, Ok_some, Al_eq]
    refine new_st rfl rfl (by rw [entC_cells]; exact entC_one hw3.one) ?_
    intro H5 n5 g5 E5
    rw [entC_cells] at g5
    have hT5 := hT.kp E5 id (fun _ _ _ => id) fun _ _ => id
    have hG5 := hG.kp E5 fun _ _ _ _ => id
    have hw5 := hw4.kp E5 (fun _ _ => id) fun _ h => h
    have k5 : Kp (fun b => b = c) H3 H5 := k4.trans (E5.mono fun _ _ h => h.elim)
    have hcl4 : c < H4.next := by omega
    have hsub : wrapF .i64 (now - a.2.at_) = now - a.2.at_ := wrap_i64 (by omega)
    have hwl5 : ∃ p q, wv = .slice p a.2.wait.length q := by obtain ⟨_, p, q, e, -, -⟩ := hw3.ex; exact ⟨p, q, e⟩
    have hlv4 : ∀ b, ob lv4 = some b → b < H4.next := fun b hb => hT.own.ob_lt hb
    -- the tail: a neighbour that stays
    have htail : ∀ (y' : Value) (fs' : List (List Int)) (H6 : Heap) (a' : Int × En), a'.2.wait = a.2.wait → TA ext H3 H6 fp c s.1 lv4 es4 → Gat (fun b => ob lv4 = some b) H3 H6 y' fs' → H6.get H4.next = some (.cells (entC (a', wv)) 86) → WAt ext H6 (fun b => fp b ∧ b ≠ c) wv a.2.wait → Kp (fun b => b = c) H3 H6 →
        rtickF now s a = ({ s.1 with all := s.1.all ++ [a'] }, fs') → tapR (Z ext) c H4.next (fun H_74 => P [y', .int .i64 ((i + 1 : Nat) : Int)] H_74) H6 := by
      intro y' fs' H6 a' ew t6 g6 x6 w6 k6 hr
      rw [← ew] at w6
      refine tapR_of (tap t6 (by have := hI.all; omega) g6 x6 w6 ?_)
      intro lv7 es7 H7 t7 g7 k7
      refine K _ _ ⟨y', lv7, es7, rfl, by rw [hr]; exact t7, by rw [hr]; exact g7, k6.then k7 fun b hb hh => ?_⟩
      rcases hh with hh | hh
      · exact hh
      · have := t6.new b hh; omega
    have hnk : ∀ H6, ob lv4 ≠ some H4.next := fun _ hh => by have := hlv4 _ hh; omega
    simp only [FA_ptr, Ld1_ptr, Nat.zero_add, rd1_own g5, entC, getN_zero, getN_succ, Ok_some, bin_sub, hsub, bin_add, hinc, bin_geq, un_not]
    rw [Br_bool]
    refine ⟨fun hkn => ?_, fun hkn => ?_⟩
    · rw [Br_dec]
      refine ⟨fun h6 => ?_, fun h6 => ?_⟩
      · have hr : rtickF now s a = s := by unfold rtickF; rw [if_pos hkn, if_pos h6]
        rw [hr] at K
        exact K _ _ ⟨y, lv4, es4, rfl, hT5, hG5, k5⟩
      · intro P2 hP2
        rw [hkn]
        simp only [Bool.not_true, Br_false]
        refine hP2 _ _ ?_
        exact htail y s.2 H5 a rfl hT5 hG5 g5 hw5 k5 (by unfold rtickF; rw [if_pos hkn, if_neg h6])
    · intro P2 hP2
      rw [hkn]
      simp only [Bool.not_false, Br_true, Br_dec]
      refine ⟨fun h6 => ⟨fun h7 => ?_, fun h7 => ?_⟩, fun h6 => ?_⟩
      · have hr : rtickF now s a = ({ s.1 with lost := s.1.lost + a.2.wait.length }, s.2) := by unfold rtickF; rw [if_neg (by simp [hkn]), if_pos h6, if_pos h7]
        rw [hr] at K
        obtain ⟨p, q, rfl⟩ := hwl5
        simp only [nilCheck_ptr, Ok_some, FA_ptr, Ld1_ptr, rd1_own hT5.cell, getN_zero, getN_succ, Nat.zero_add, len_34, Ok2_some, bin_add]
        have hlo2 := hI.lost
        rw [wrap_i64 (by omega)]
        refine st_one' hT5.cell (by simp) (by simp) fun H6 n6 g6 k6 => ?_
        refine K _ _ ⟨y, lv4, es4, rfl, ⟨g6, hT5.own.kp k6 fun b hb he => ?_, hT5.new, hT5.all, fun x hx => (hT5.wt x hx).kp k6 hfb fun _ h => h, hT5.fc, hT5.lt, by omega⟩, hG5.kp k6 fun b b1 _ _ he => ?_, k5.trans k6⟩
        · have := hT5.new b hb; omega
        · omega
      · have hr : rtickF now s a = ({ s.1 with all := s.1.all ++ [(a.1, { a.2 with at_ := now, tries := a.2.tries + 1 })] }, s.2 ++ [frameB 281474976710655 s.1.mac 2054 (arpB 1 s.1.mac s.1.ip 0 a.1)]) := by unfold rtickF; rw [if_neg (by simp [hkn]), if_pos h6, if_neg h7]
        refine st_one' g5 (by simp) (by simp [entC]) fun H6 n6 g6 k6 => ?_
        have hs6 : (entC (a, wv)).set 3 (.int .i64 now) = entC ((a.1, { a.2 with at_ := now }), wv) := rfl
        rw [hs6] at g6
        simp only [FA_ptr, Ld1_ptr, Nat.zero_add, rd1_own g6, entC, getN_zero, getN_succ, Ok_some, bin_add]
        rw [wrap_i64 (by omega)]
        refine st_one' g6 (by simp) (by simp [entC]) fun H7 n7 g7 k7 => ?_
        have hs7 : (entC ((a.1, { a.2 with at_ := now }), wv)).set 4 (.int .i64 (a.2.tries + 1)) = entC ((a.1, { a.2 with at_ := now, tries := a.2.tries + 1 }), wv) := rfl
        rw [hs7] at g7
        have k57 : Kp (fun b => b = H4.next) H5 H7 := k6.trans k7
        have hT7 := hT5.kp k57 (by omega) (fun b hb _ he => by have := hT5.lt b hb; omega) fun b hb he => by have := hlv4 b hb; omega
        simp only [FA_ptr, Ld1_ptr, Nat.zero_add, rd1_own g7, entC, getN_zero, getN_succ, Ok_some]
        have hc7 := hT7.cell
        rw [hI.mac, hI.ip] at hc7
        refine C_mono (c49 hc7 (by omega) hm hi (by omega) (by omega) (by omega) hrg) ?_
        rintro f H8 ⟨f8, E8⟩
        have hG4 := hG
        have k48 : Kp (fun _ => False) H4 H8 := (E5.then k57 fun b hb he => by omega).trans E8
        have hG8 := hG4.kp k48 fun _ _ _ _ => id
        have hle8 := E8.le
        refine gpush (ext := ext) hG8 f8 (by omega) (fun b hb => ?_) (fun b hb => by have := hlv4 b hb; omega) (by have := hI.len; omega) ?_
        · have h9 := (f8.bk hb).1
          exact ⟨fun he => by have := (hG.ob_lt he).2.1; omega, fun he => by have := hlv4 b he; omega⟩
        intro y' H9 hG9 k9
        refine hP2 _ _ ?_
        have k79 : Kp (fun b => ob y = some b) H7 H9 := (E8.mono fun _ _ h => h.elim).then k9 fun _ _ h => h
        have hyo : ∀ b, ob y = some b → H3.next ≤ b ∧ b < H4.next ∧ ¬ ob lv4 = some b := fun b hb => hG.ob_lt hb
        refine htail y' _ H9 (a.1, { a.2 with at_ := now, tries := a.2.tries + 1 }) rfl (hT7.kp k79 (fun he => by have := hyo c he; omega) (fun b hb _ he => by have := hyo b he; have := hT5.lt b hb; omega) fun b hb he => (hyo b he).2.2 hb) hG9 ?_ ?_ ?_ (by rw [hr, hI.mac, hI.ip])
        · rw [k79.get _ (by omega) (fun he => by have := hyo _ he; omega), g7]
        · refine (hw5.kp k57 (fun b hb he => ?_) fun _ h => h).kp k79 (fun b hb he => ?_) fun _ h => h
          · have := hT5.lt b hb.1; omega
          · have := hyo b he; have := hT5.lt b hb.1; omega
        · refine (k5.then k57 fun b hb he => by omega).then k79 fun b hb he => ?_
          have := hyo b he; omega
      · refine hP2 _ _ ?_
        exact htail y s.2 H5 a rfl hT5 hG5 g5 hw5 k5 (by unfold rtickF; rw [if_neg (by simp [hkn]), if_neg h6])
  · rintro _ H4 ⟨y, lv4, es4, rfl, hT, hG, k4⟩
    refine hP _ _ _ ?_
    rw [List.take_length] at hT hG
    rw [hlv]
    simp only [len_57, Ok2_some, bin_lss, Ok_some, Br_dec]
    refine ⟨fun h => absurd h (by omega), fun _ => ?_⟩
    refine hQ' _ _ _ _ _ rfl ⟨lv4, es4, hT.ra.more (fun b hb => ?_) fun b hb => ?_⟩ hG.fv (k13.trans k4)
    · rcases hb with hb | hb
      · exact .inl hb
      · exact .inr ⟨by omega, hb.2⟩
    · have := k4.le
      rcases hb with hb | hb
      · have := hlt1 b hb; omega
      · exact hb.2

end Ev
end Go.Proofs.Ytglkgmomnbdkoaa

