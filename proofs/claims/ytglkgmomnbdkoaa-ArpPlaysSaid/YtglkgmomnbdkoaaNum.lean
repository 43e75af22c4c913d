/- Contracts of numbers read from bytes, and of frames that are read (octet.Num, ether.Take). -/
import Derived.Test.YtglkgmomnbdkoaaCh2
import Derived.Test.YtglkgmomnbdkoaaCh3
namespace Go.Proofs.Ytglkgmomnbdkoaa
namespace Ev
variable {ext : Nat → Nat → Option Value} {H : Heap}

theorem c67 {p : Option Addr} {len c : Nat} {at_ n : Int} (h0 : 0 ≤ at_) (h1 : 0 ≤ n) (h2 : at_ + n ≤ len) (h3 : (len : Int) < 9223372036854775808) : C (Z ext) 67 [.slice p len c, .int .i64 at_, .int .i64 n] H fun r H' => r = .int .i64 0 ∧ H = H' := by
  refine C_all fun Q hQ => ?_
  apply w67_ok rfl
  simp only [w67, bin_lss, Ok_some, Br_dec, len_29, Ok2_some, bin_gtr, bin_sub]
  rw [wrap_i64 (by omega)]
  exact ⟨fun h => absurd h (by omega), fun _ => ⟨fun h => absurd h (by omega), fun _ => ⟨fun h => absurd h (by omega), fun _ => ⟨fun h => absurd h (by omega), fun _ => hQ _ _ ⟨rfl, rfl⟩⟩⟩⟩⟩

/-- A number of bytes, the greatest first. -/
def num (l : List Int) : Int := l.foldl (fun v x => v * 256 + x) 0

theorem num_append (l : List Int) (x : Int) : num (l ++ [x]) = num l * 256 + x := by simp [num]

theorem num_aux : ∀ (l : List Int) (v : Int) (k : Nat), Byt l → 0 ≤ v → v < 256 ^ k → 0 ≤ l.foldl (fun v x => v * 256 + x) v ∧ l.foldl (fun v x => v * 256 + x) v < 256 ^ (k + l.length)
  | [], v, k, _, h0, h1 => ⟨h0, h1⟩
  | x :: l, v, k, h, h0, h1 => by
    have hx := h x List.mem_cons_self
    have := num_aux l (v * 256 + x) (k + 1) (fun b hb => h b (List.mem_cons_of_mem _ hb)) (by omega) (by rw [Int.pow_succ]; omega)
    rw [show k + 1 + l.length = k + (x :: l).length by simp; omega] at this
    exact this

theorem num_lt {l : List Int} (h : Byt l) : 0 ≤ num l ∧ num l < 256 ^ l.length := by
  have := num_aux l 0 0 h (by omega) (by simp)
  rwa [Nat.zero_add] at this

theorem be_succ (n : Nat) (v : Int) : be (n + 1) v = be n (v / 256) ++ [v % 256] := by
  refine List.ext_getElem? fun i => ?_
  rcases Nat.lt_trichotomy i n with hi | hi | hi
  · rw [List.getElem?_append_left (by simp; omega)]
    simp only [be, List.getElem?_map, List.getElem?_range hi, List.getElem?_range (show i < n + 1 by omega), Option.map_some, byteAt]
    rw [show n + 1 - 1 - i = (n - 1 - i) + 1 by omega, Int.pow_succ', ← Int.ediv_ediv_of_nonneg (by omega)]
  · subst hi
    rw [List.getElem?_append_right (by simp)]
    simp [be, byteAt]
  · rw [List.getElem?_eq_none (by simp; omega), List.getElem?_eq_none (by simp; omega)]

theorem num_be : ∀ (n : Nat) {v : Int}, 0 ≤ v → v < 256 ^ n → num (be n v) = v
  | 0, v, h0, h1 => by simp at h1; simp [be, num]; omega
  | n + 1, v, h0, h1 => by
    rw [be_succ, num_append, num_be n (Int.ediv_nonneg h0 (by omega)) (by rw [Int.pow_succ] at h1; exact Int.ediv_lt_of_lt_mul (by omega) h1)]
    omega

theorem or_byte {v x : Int} (hv : 0 ≤ v ∧ v < 72057594037927936) (hx : 0 ≤ x ∧ x < 256) : wrapF .u64 ((Nat.lor (natF .u64 (v * 256)) (natF .u64 x) : Nat) : Int) = v * 256 + x := by
  obtain ⟨a, rfl⟩ := Int.eq_ofNat_of_zero_le hv.1
  obtain ⟨b, rfl⟩ := Int.eq_ofNat_of_zero_le hx.1
  have e1 : natF .u64 ((a : Int) * 256) = a * 256 := by
    show (((a : Int) * 256) % ((18446744073709551616 : Nat) : Int)).toNat = _
    omega
  have e2 : natF .u64 (b : Int) = b := by
    show ((b : Int) % ((18446744073709551616 : Nat) : Int)).toNat = _
    omega
  rw [e1, e2]
  have e3 : Nat.lor (a * 256) b = a * 256 + b := by
    have := (Nat.shiftLeft_add_eq_or_of_lt (i := 8) (b := b) (by omega) a).symm
    rw [Nat.shiftLeft_eq] at this
    exact this
  rw [e3, wrap_u64 (by omega)]
  omega

theorem slice29u {b len : Nat} {lo hi : Int} (h0 : 0 ≤ lo) (h1 : lo ≤ hi) (h2 : hi ≤ len) : slice (Z ext) 29 (.slice (some ⟨b, 0, none⟩) len (unk + 1)) (some (.int .i64 lo)) (some (.int .i64 hi)) none = some (.slice (some ⟨b, lo.toNat, none⟩) (hi.toNat - lo.toNat) (unk + 1)) := by
  have e1 : Nat.ble unk (unk + 1) = true := rfl
  have e2 : Nat.beq (unk + 1) (unk + 1) = true := rfl
  have e3 : Tab.i5.size = 1 := rfl
  simp only [slice, tt_29, Tab.i29, tt_5, e3, e1, e2, cond_true, bound, if_pos (show 0 ≤ hi ∧ hi ≤ (len : Nat) from ⟨by omega, h2⟩), if_pos (show 0 ≤ lo ∧ lo ≤ ((hi.toNat : Nat) : Int) from ⟨h0, by omega⟩), addA, Nat.mul_one, Nat.zero_add]

theorem slice29r {b len : Nat} {lo : Int} (h0 : 0 ≤ lo) (h1 : lo ≤ len) : slice (Z ext) 29 (.slice (some ⟨b, 0, none⟩) len (unk + 1)) (some (.int .i64 lo)) none none = some (.slice (some ⟨b, lo.toNat, none⟩) (len - lo.toNat) (unk + 1)) := by
  have e1 : Nat.ble unk (unk + 1) = true := rfl
  have e2 : Nat.beq (unk + 1) (unk + 1) = true := rfl
  have e3 : Tab.i5.size = 1 := rfl
  simp only [slice, tt_29, Tab.i29, tt_5, e3, e1, e2, cond_true, bound, if_pos (show 0 ≤ lo ∧ lo ≤ ((len : Nat) : Int) from ⟨h0, h1⟩), addA, Nat.mul_one, Nat.zero_add]

/-- A number is read. -/
theorem c56 {b : Nat} {bs : List Int} {at_ n : Nat} (hg : H.get b = some (.cells (B8 bs) 5)) (hB : Byt bs) (hn : 1 ≤ n ∧ n ≤ 8) (ha : at_ + n ≤ bs.length) (hl : bs.length < 1000000) :
    C (Z ext) 56 [.slice (some ⟨b, 0, none⟩) bs.length (unk + 1), .int .i64 at_, .int .i64 n] H fun r H' => r = .tuple #[.int .u64 (num ((bs.drop at_).take n)), .int .i64 0] ∧ H = H' := by
  refine C_all fun Q hQ => ?_
  apply w56_ok rfl
  simp only [w56]
  refine C_mono (c66 _) ?_
  rintro _ _ ⟨rfl, rfl⟩
  simp only [un_not, Ok_some, Br_ndec]
  refine ⟨fun h => absurd (by omega) h, fun _ => ?_⟩
  refine C_mono (c67 (by omega) (by omega) (by omega) (by omega)) ?_
  rintro _ _ ⟨rfl, rfl⟩
  simp only [bin_neq, Ok_some, decide_true, Bool.not_true, Br_false, bin_add]
  rw [wrap_i64 (by omega), slice29u (by omega) (by omega) (by omega)]
  simp only [Ok_some, len_29, Ok2_some, Int.toNat_natCast]
  have e0 : ((at_ : Int) + n).toNat - at_ = n := by omega
  rw [e0]
  intro P hP
  have hbl : ((bs.drop at_).take n).length = n := by simp; omega
  have hbb : Byt ((bs.drop at_).take n) := fun x hx => hB x (List.mem_of_mem_drop (List.mem_of_mem_take hx))
  generalize hq : (bs.drop at_).take n = q at hbl hbb hQ
  refine loop_up n (fun i vs H' => vs = [.int .u64 (num (q.take i)), .int .i64 i] ∧ H = H') ?_ ?_ (Nat.zero_le _) ⟨rfl, rfl⟩
  · rintro i _ _ hi ⟨rfl, rfl⟩ k
    refine hP _ _ _ ?_
    obtain ⟨x, hx⟩ : ∃ x, q[i]? = some x := ⟨q[i]'(by omega), List.getElem?_eq_getElem _⟩
    have hxr := hbb x (List.mem_of_getElem? hx)
    have hcell : (B8 bs)[at_ + i]? = some (.int .u8 x) := by
      have : bs[at_ + i]? = some x := by
        rw [← hq, List.getElem?_take_of_lt hi, List.getElem?_drop] at hx
        exact hx
      simp [B8, this]
    simp only [bin_lss, Ok_some, Br_dec]
    refine ⟨fun _ => ?_, fun h => absurd (by omega) h⟩
    simp only [IA_slice]
    refine ⟨by omega, ?_⟩
    have e1 : at_ + (i : Int).toNat * 1 = at_ + i := by omega
    have hlt := num_lt (l := q.take i) fun y hy => hbb y (List.mem_of_mem_take hy)
    have hil : (q.take i).length = i := by simp; omega
    rw [hil] at hlt
    have hp : (256 : Int) ^ i ≤ 72057594037927936 := by
      have h7 : (256 : Nat) ^ i ≤ 256 ^ 7 := Nat.pow_le_pow_right (by omega) (by omega)
      have h8 : ((256 ^ i : Nat) : Int) ≤ ((256 ^ 7 : Nat) : Int) := Int.ofNat_le.2 h7
      rw [Int.natCast_pow] at h8
      exact h8
    simp only [e1, Ld1_ptr, rd1_own hg, getN_eq, hcell, Ok_some]
    rw [bin_shl (by omega)]
    have e2 : min (8 : Int).toNat (bitsF .u64) = 8 := rfl
    simp only [e2, Ok_some, conv_5_28, Ok2_some]
    have e3 : ((2 ^ 8 : Nat) : Int) = 256 := rfl
    rw [e3, wrap_u64 (n := num (q.take i) * 256) (by omega), wrap_u64 (n := x) (by omega)]
    have e4 : bin (Tab.ctx ext spA) .or 28 (.int .u64 (num (q.take i) * 256)) (.int .u64 x) = some (.int .u64 (wrapF .u64 ((Nat.lor (natF .u64 (num (q.take i) * 256)) (natF .u64 x) : Nat) : Int))) := by
      simp only [bin, intOp, if_true]
    rw [e4, Ok_some, or_byte (by omega) hxr]
    simp only [bin_add, Ok_some]
    rw [wrap_i64 (by omega)]
    refine k _ _ ⟨?_, rfl⟩
    rw [List.take_add_one, hx]
    simp only [Option.toList_some, num_append]
    simp
  · rintro _ _ ⟨rfl, rfl⟩
    refine hP _ _ _ ?_
    rw [List.take_of_length_le (by omega)]
    simp only [bin_lss, Ok_some, Br_dec]
    exact ⟨fun h => absurd h (by omega), fun _ => hQ _ _ ⟨rfl, rfl⟩⟩

/-- The next number of a reader. -/
theorem c55 {b pb pa : Nat} {bs : List Int} {at_ n : Nat} (hg : H.get b = some (.cells (B8 bs) 5)) (hB : Byt bs) (hpb : H.get pb = some (.cells [.slice (some ⟨b, 0, none⟩) bs.length (unk + 1)] 29)) (hpa : H.get pa = some (.cells [.int .i64 at_] 3)) (hn : 1 ≤ n ∧ n ≤ 8) (ha : at_ + n ≤ bs.length)
    (hl : bs.length < 1000000) :
    C (Z ext) 55 [.int .i64 n, .pointer (some ⟨pb, 0, none⟩), .pointer (some ⟨pa, 0, none⟩)] H fun r H' => r = .int .u64 (num ((bs.drop at_).take n)) ∧ H'.get pa = some (.cells [.int .i64 (at_ + n : Nat)] 3) ∧ Kp (fun x => x = pa) H H' ∧ H'.next = H.next := by
  refine C_all fun Q hQ => ?_
  apply w55_ok rfl
  simp only [w55, Ld1_ptr, rd1_own hpb, rd1_own hpa, getN_zero, Ok_some]
  refine C_mono (c56 hg hB hn ha hl) ?_
  rintro _ _ ⟨rfl, rfl⟩
  simp only [extract_mk, getN_zero, getN_succ, Ok_some, rd1_own hpa, bin_add]
  rw [wrap_i64 (by omega)]
  refine st_one' hpa (by simp) (by simp) ?_
  intro H' n' g' k'
  exact hQ _ _ ⟨rfl, by rw [g']; simp, k', n'⟩

theorem frameB_len (to fr kind : Int) (bs : List Int) : (frameB to fr kind bs).length = 14 + bs.length := by simp [frameB]; omega

/-- A frame is read. -/
theorem c31 {b : Nat} {to fr kind : Int} {bs : List Int} (hb : b < H.next) (hg : H.get b = some (.cells (B8 (frameB to fr kind bs)) 5)) (h1 : 0 ≤ to ∧ to < 281474976710656) (h2 : 0 ≤ fr ∧ fr < 281474976710656) (h3 : 1536 ≤ kind ∧ kind < 65536) (hB : Byt bs) (hl : bs.length ≤ 1500) :
    C (Z ext) 31 [.slice (some ⟨b, 0, none⟩) (frameB to fr kind bs).length (unk + 1)] H fun r H' => ∃ bv, r = .tuple #[.agg ⟨[.int .u64 to, .int .u64 fr, .int .u16 kind, bv]⟩, .int .i64 0] ∧ BAt ext H' bv bs ∧ Ext H H' := by
  refine C_all fun Q hQ => ?_
  have hfb := frameB_byt to fr kind hB
  have hfl := frameB_len to fr kind bs
  have hx1 : num (((frameB to fr kind bs).drop 0).take 6) = to := by
    have : ((frameB to fr kind bs).drop 0).take 6 = be 6 to := by simp [frameB, List.take_append]
    rw [this]; exact num_be 6 h1.1 h1.2
  have hx2 : num (((frameB to fr kind bs).drop 6).take 6) = fr := by
    have : ((frameB to fr kind bs).drop 6).take 6 = be 6 fr := by simp [frameB, List.drop_append, List.take_append]
    rw [this]; exact num_be 6 h2.1 h2.2
  have hx3 : num (((frameB to fr kind bs).drop 12).take 2) = kind := by
    have : ((frameB to fr kind bs).drop 12).take 2 = be 2 kind := by simp [frameB, List.drop_append, List.take_append]
    rw [this]; exact num_be 2 (by omega) (by omega)
  have hx4 : (frameB to fr kind bs).drop 14 = bs := by
    have : frameB to fr kind bs = (be 6 to ++ be 6 fr ++ be 2 kind) ++ bs := rfl
    rw [this, List.drop_left' (by simp)]
  generalize frameB to fr kind bs = fb at *
  apply w31_ok rfl
  simp only [w31, Al_eq, len_29, Ok2_some, bin_lss, Ok_some, Br_dec, bin_gtr]
  refine ⟨fun h => absurd h (by omega), fun _ => ⟨fun h => absurd h (by omega), fun _ => ?_⟩⟩
  have E1 : Ext H (H.alloc (.cells [.int .u64 0, .int .u64 0, .int .u16 0, .slice none 0 0] 78)) := .alloc _ _ _
  have g1 : (H.alloc (.cells [.int .u64 0, .int .u64 0, .int .u16 0, .slice none 0 0] 78)).get H.next = some (.cells [.int .u64 0, .int .u64 0, .int .u16 0, .slice none 0 0] 78) := by simp
  have n1 : (H.alloc (.cells [.int .u64 0, .int .u64 0, .int .u16 0, .slice none 0 0] 78)).next = H.next + 1 := by simp
  generalize H.alloc (.cells [.int .u64 0, .int .u64 0, .int .u16 0, .slice none 0 0] 78) = H1 at E1 g1 n1 ⊢
  have h42 : C (Z ext) 42 [.slice (some ⟨b, 0, none⟩) fb.length (unk + 1), .int .i64 0] H1 fun r H' => r = .func (.func 55) #[] #[.pointer (some ⟨H1.next, 0, none⟩), .pointer (some ⟨H1.next + 1, 0, none⟩)] ∧
      H'.get H1.next = some (.cells [.slice (some ⟨b, 0, none⟩) fb.length (unk + 1)] 29) ∧ H'.get (H1.next + 1) = some (.cells [.int .i64 (0 : Nat)] 3) ∧ Ext H1 H' ∧ H'.next = H1.next + 2 := by
    apply w42_ok rfl
    simp only [w42, Al_eq, cellsOf_slice, cellsOf_int, Heap.next_alloc, true_and]
    refine ⟨?_, ?_, (Kp.alloc _ _ _).alloc' _, trivial⟩
    · rw [Heap.get_alloc_ne (by simp)]; simp
    · simp
  refine C_mono h42 ?_
  rintro _ H2 ⟨rfl, gb2, ga2, E2, n2⟩
  have hle1 := E1.le
  have hgb : H2.get b = some (.cells (B8 fb) 5) := by rw [(E1.trans E2).get' hb, hg]
  simp only [CV_func]
  have hne : b ≠ H1.next + 1 := by omega
  have r6 : (6 : Int) = ((6 : Nat) : Int) := rfl
  have r2 : (2 : Int) = ((2 : Nat) : Int) := rfl
  refine C_mono (c55 (n := 6) (at_ := 0) hgb hfb gb2 ga2 (by omega) (by omega) (by omega)) ?_
  rintro _ H3 ⟨rfl, ga3, k3, n3⟩
  have hgb3 := (k3.get b (by omega) hne).trans hgb
  have gb3 := (k3.get H1.next (by omega) (by omega)).trans gb2
  refine C_mono (c55 (n := 6) (at_ := 0 + 6) hgb3 hfb gb3 ga3 (by omega) (by omega) (by omega)) ?_
  rintro _ H4 ⟨rfl, ga4, k4, n4⟩
  have hgb4 := (k4.get b (by omega) hne).trans hgb3
  have gb4 := (k4.get H1.next (by omega) (by omega)).trans gb3
  refine C_mono (c55 (n := 2) (at_ := 0 + 6 + 6) hgb4 hfb gb4 ga4 (by omega) (by omega) (by omega)) ?_
  rintro _ H5 ⟨rfl, ga5, k5, n5⟩
  have hgb5 := (k5.get b (by omega) hne).trans hgb4
  have k25 : Kp (fun x => x = H1.next + 1) H2 H5 := (k3.trans k4).trans k5
  have E15 : Ext H1 H5 := (E2.mono (fun _ _ h => h.elim)).then k25 fun c hc hs => by omega
  simp only [Nat.zero_add, hx1, hx2, show 6 + 6 = 12 from rfl, hx3, conv_28_76, Ok2_some]
  rw [slice29r (by omega) (by omega), wrap_u16 (by omega)]
  simp only [Ok_some]
  have hbody : BAt ext H5 (.slice (some ⟨b, (14 : Int).toNat, none⟩) (fb.length - (14 : Int).toNat) (unk + 1)) bs := by
    have e14 : (14 : Int).toNat = 14 := rfl
    have el : fb.length - 14 = bs.length := by omega
    rw [e14, el]
    refine ⟨⟨_, _, rfl⟩, ?_, hB, fun c hc => ?_⟩
    · rw [cellsAt_own hgb5 (by simp; omega)]
      have : (B8 fb).drop 14 = B8 bs := by simp only [B8, ← List.map_drop, hx4]
      rw [this, List.take_of_length_le (by simp)]
    · simp [bk] at hc; omega
  refine C_mono (c28 hbody (by omega)) ?_
  rintro bv H6 ⟨hbv, fbv, E6⟩
  obtain ⟨pv, cv, hbe⟩ := hbv.shape
  rw [build_78_0123 _ _ _ _ (by simp) (by simp) (by simp) (by rw [hbe]; simp)]
  simp only [Ok_some]
  refine new_st rfl (by simp) (by simp [hbe]) ?_
  intro H7 n7 g7 E7
  simp only [cellsOf_agg] at g7
  simp only [FA_ptr, Ld1_ptr, Nat.zero_add, rd1_own g7, getN_zero, getN_succ, Ok_some, bin_lss, Br_dec]
  refine ⟨fun h => absurd h (by omega), fun _ => ?_⟩
  have hrd : rdN (Tab.ctx ext spA) H7 ⟨H6.next, 0, none⟩ 4 = some [.int .u64 to, .int .u64 fr, .int .u16 kind, bv] := by rw [rdN_own g7]; rfl
  simp only [LdN_ptr, hrd, Ok_some, St_ptr, cellsOf_agg]
  refine ⟨rfl, ?_⟩
  have E17 : Ext H1 H7 := (E15.trans E6).trans E7
  have gr : H7.get H.next = _ := (E17.get' (by omega)).trans g1
  rw [wrN_own gr (by simp [hbe]), splice_all (by simp)]
  simp only [Option.map_some, Ok_some, load_78]
  have hrd2 : rdN (Tab.ctx ext spA) (H7.set H.next (.cells [.int .u64 to, .int .u64 fr, .int .u16 kind, bv] 78)) ⟨H.next, 0, none⟩ 4 = some [.int .u64 to, .int .u64 fr, .int .u16 kind, bv] := by
    rw [rdN_own (Heap.get_set_self _ _ _)]; rfl
  rw [hrd2]
  simp only [Option.map_some, Ok_some]
  have E07 : Ext H H7 := E1.trans E17
  refine hQ _ _ ⟨bv, rfl, (hbv.up E7).kp (Kp.set (S := fun c => c = H.next) _ _ _ fun _ => rfl) fun c hc he => ?_, E07.set' _ (by omega)⟩
  have := fbv c hc
  have := E15.le
  omega

end Ev
end Go.Proofs.Ytglkgmomnbdkoaa
