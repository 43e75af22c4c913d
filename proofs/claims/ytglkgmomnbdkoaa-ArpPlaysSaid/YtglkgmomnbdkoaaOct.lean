/- Contracts of numbers in bytes (octet, and the document's own), by the predicates of their texts. -/
import Derived.Test.YtglkgmomnbdkoaaSh
import Derived.Test.YtglkgmomnbdkoaaFct
import Derived.Test.YtglkgmomnbdkoaaRow2
namespace Go.Proofs.Ytglkgmomnbdkoaa
namespace Ev

noncomputable def sp40 : FuncId → Option (List Value → Heap → Option (Value × Heap)) := fun f => cond (Nat.beq f 40) (some sortedS) none

theorem sp40_ok (ext : Nat → Nat → Option Value) : SpecOk Try.prog (Tab.ctx ext sp40) := by
  intro f s h
  change sp40 f = some s at h
  unfold sp40 at h
  cases hf : Nat.beq f 40 with
  | false => rw [hf] at h; cases h
  | true =>
    rw [hf] at h
    cases h
    have := Nat.eq_of_beq_eq_true hf
    subst this
    exact sortedS_ok _

def resV1 (x : Option (Value × Heap)) : Option Value := match x with
  | some (v, _) => some v
  | none => none

theorem resV1_eq {x : Option (Value × Heap)} {v : Value} (h : resV1 x = some v) : ∃ H', x = some (v, H') := by
  cases x with
  | none => cases h
  | some p => obtain ⟨u, H'⟩ := p; simp only [resV1] at h; cases h; exact ⟨H', rfl⟩

set_option maxRecDepth 100000 in
theorem live_run : resV1 (callN (Tab.ctx (fun _ _ => none) sp40) 100000 14 [] E0) = some (.bool true) := by kernel_rfl

theorem live_calls (W : World) : IsTrue 14 #[] W := by
  obtain ⟨H', hH⟩ := resV1_eq live_run
  exact isTrue_of_run (Tabs.call (X := Tab.ctx (fun _ _ => none) sp40) Tab.tabs (sp40_ok _) 100000) hH ⟨fun b o v h => by cases h⟩ .nil

/-- What must be whatever is asked is so, wherever it is asked. -/
def liveS : List Value → Heap → Option (Value × Heap)
  | [], H => some (.bool true, H)
  | _, _ => none

theorem liveS_ok (X : Ctx) : CallOk Try.prog X (fun g args H => cond (Nat.beq g 14) (liveS args H) none) := by
  intro f args H v H' h
  simp only at h
  cases hf : Nat.beq f 14 with
  | false => rw [hf] at h; cases h
  | true =>
    have := Nat.eq_of_beq_eq_true hf
    subst this
    simp only [hf, cond_true] at h
    cases args with
    | cons x l => cases h
    | nil =>
      simp only [liveS] at h
      cases h
      refine ⟨Up.refl _, fun S m w args' hext hr hfree hargs => ⟨⟨Try.f14, Try.func14, rfl, by kernel_rfl⟩, ?_⟩⟩
      have : args' = #[] := by
        obtain ⟨l'⟩ := args'
        cases hargs; rfl
      subst this
      refine (live_calls w).mono ?_
      rintro e w' ⟨rfl, hl⟩
      exact ⟨m, _, rfl, .refl _ _, .bool _, hr.still m.le_refl hl.old hl.size (fun b L hb => Nat.lt_of_lt_of_le (hr.bound b L hb) hl.size) hl.os hl.out hl.tape⟩

noncomputable def spA : FuncId → Option (List Value → Heap → Option (Value × Heap)) := fun f => cond (Nat.beq f 40) (some sortedS) (cond (Nat.beq f 14) (some liveS) none)
noncomputable abbrev Z (ext : Nat → Nat → Option Value) : Ctx := Tab.ctx ext spA

theorem spA_ok (ext : Nat → Nat → Option Value) : SpecOk Try.prog (Z ext) := by
  intro f s h
  change spA f = some s at h
  unfold spA at h
  cases hf : Nat.beq f 40 with
  | true =>
    rw [hf] at h
    cases h
    have := Nat.eq_of_beq_eq_true hf
    subst this
    exact sortedS_ok _
  | false =>
    rw [hf] at h
    cases hg : Nat.beq f 14 with
    | true =>
      rw [hg] at h
      cases h
      have := Nat.eq_of_beq_eq_true hg
      subst this
      exact liveS_ok _
    | false => rw [hg] at h; cases h

theorem callZ (ext : Nat → Nat → Option Value) (n : Nat) : CallOk Try.prog (Z ext) (callN (Z ext) n) := Tabs.call (X := Z ext) Tab.tabs (spA_ok ext) n

theorem c14 {ext : Nat → Nat → Option Value} {H : Heap} {Q : Value → Heap → Prop} (h : Q (.bool true) H) : C (Z ext) 14 [] H Q := C_spec (s := liveS) rfl rfl h

variable {ext : Nat → Nat → Option Value} {H : Heap}

theorem c66 (n : Int) : C (Z ext) 66 [.int .i64 n] H fun v H' => v = .bool (decide (1 ≤ n ∧ n ≤ 8)) ∧ H = H' := by
  apply w66_ok rfl
  simp only [w66, bin_geq, bin_leq, Ok_some, Br_dec]
  refine ⟨fun h => ?_, fun h => ?_⟩ <;> simp <;> omega

/-- Bytes of a number, the greatest first. -/
def byteAt (n : Nat) (v : Int) (i : Nat) : Int := v / 256 ^ (n - 1 - i) % 256
def be (n : Nat) (v : Int) : List Int := (List.range n).map (byteAt n v)

theorem be_byt (n : Nat) (v : Int) : Byt (be n v) := by
  intro b hb
  obtain ⟨i, -, rfl⟩ := List.mem_map.1 hb
  exact ⟨Int.emod_nonneg _ (by omega), Int.emod_lt_of_pos _ (by omega)⟩

@[simp] theorem be_length (n : Nat) (v : Int) : (be n v).length = n := by simp [be]

/-- Cells of which the first i are laid. -/
def laid (n i : Nat) (v : Int) : List Value := (List.range n).map fun j => .int .u8 (if j < i then byteAt n v j else 0)

theorem laid_all (n : Nat) (v : Int) : laid n n v = B8 (be n v) := by
  unfold laid B8 be
  rw [List.map_map]
  refine List.map_congr_left fun j hj => ?_
  rw [List.mem_range] at hj
  simp [hj]

theorem laid_step {n i : Nat} (h : i < n) (v : Int) : splice i (laid n i v) [.int .u8 (byteAt n v i)] = some (laid n (i + 1) v) := by
  rw [splice_of (by simp [laid]; omega)]
  congr 1
  refine List.ext_getElem? fun j => ?_
  simp only [laid, List.length_singleton]
  rcases Nat.lt_trichotomy j i with hj | hj | hj
  · rw [List.append_assoc, List.getElem?_append_left (by simp; omega), List.getElem?_take_of_lt hj]
    have : j < n := by omega
    simp [this, hj, show j < i + 1 by omega]
  · subst hj
    rw [List.append_assoc, List.getElem?_append_right (by simp; omega), List.getElem?_append_left (by simp; omega)]
    have : min j n = j := by omega
    simp [this, h]
  · rw [List.getElem?_append_right (by simp; omega)]
    have e : min i n = i := by omega
    simp only [List.length_append, List.length_take, List.length_map, List.length_range, List.length_singleton, List.getElem?_drop, e]
    have : i + 1 + (j - (i + 1)) = j := by omega
    rw [this]
    by_cases hjn : j < n
    · simp [hjn, show ¬ j < i by omega, show ¬ j < i + 1 by omega]
    · simp [show n ≤ j by omega]

theorem laid_zero (n : Nat) (v : Int) : laid n 0 v = repl [.int .u8 0] n := by
  have : ∀ m, repl [Value.int .u8 0] m = List.replicate m (.int .u8 0) := by
    intro m; induction m with
    | zero => rfl
    | succ m ih => simp [repl, ih, List.replicate_succ]
  rw [this]
  unfold laid
  refine List.ext_getElem? fun j => ?_
  by_cases hj : j < n
  · simp [hj]
  · simp [hj, List.getElem?_replicate]

theorem make29 {n : Int} (h0 : 0 ≤ n) (h : n ≤ 140737488355328) : makeSlice (Z ext) H 29 (.int .i64 n) (.int .i64 n) = some (.slice (some ⟨H.next, 0, none⟩) n.toNat n.toNat, H.alloc (.cells (repl [.int .u8 0] n.toNat) 5)) := by
  simp only [makeSlice, tt_29, Tab.i29, tt_5, Tab.i5]
  rw [if_pos (by refine ⟨h0, Int.le_refl _, by omega, ?_, by decide, by decide⟩; simp; omega)]

theorem shr8 (v : Int) (k : Nat) : v.fdiv ((2 ^ (8 * k) : Nat) : Int) = v / 256 ^ k := by
  rw [Int.fdiv_eq_ediv_of_nonneg _ (Int.natCast_nonneg _), Nat.pow_mul, Int.natCast_pow]
  rfl

theorem C_all {X : Ctx} {f : FuncId} {args : List Value} {Post : Value → Heap → Prop} (h : ∀ Q : Value → Heap → Prop, (∀ r H', Post r H' → Q r H') → C X f args H Q) : C X f args H Post := h Post fun _ _ k => k

/-- A number as n bytes: they lie in new memory. -/
theorem c62 {n : Nat} {v : Int} (hn : 1 ≤ n ∧ n ≤ 8) (hv : 0 ≤ v ∧ v < 256 ^ n) :
    C (Z ext) 62 [.int .u64 v, .int .i64 n] H fun r H' => r = .tuple #[.slice (some ⟨H.next, 0, none⟩) n n, .int .i64 0] ∧ H'.next = H.next + 1 ∧ H'.get H.next = some (.cells (B8 (be n v)) 5) ∧ Ext H H' := by
  refine C_all fun Q hQ => ?_
  apply w62_ok rfl
  unfold w62
  refine C_mono (c66 _) ?_
  rintro _ _ ⟨rfl, rfl⟩
  have main : (Ok2 (makeSlice (Z ext) H 29 (.int .i64 n) (.int .i64 n)) fun v23_23 H_24 =>
        Ok2 (builtin (Z ext) H_24 .len [29] [v23_23]) fun v25_27 H_28 =>
        ∀ P_30 : List Value → Heap → Prop, (∀ x26_31 : Value, ∀ H_32,
        (Ok (bin (Z ext) .lss 3 x26_31 v25_27) fun v27_33 =>
        Br v27_33
        (Ok (bin (Z ext) .sub 3 (.int .i64 n) (.int .i64 1)) fun v33_40 =>
        Ok (bin (Z ext) .sub 3 v33_40 x26_31) fun v35_42 =>
        Ok (bin (Z ext) .mul 3 (.int .i64 8) v35_42) fun v36_43 =>
        Ok (bin (Z ext) .shr 28 (.int .u64 v) v36_43) fun v37_44 =>
        Ok2 (conv (Z ext) H_32 28 5 v37_44) fun v38_45 H_46 =>
        IA v23_23 x26_31 1 fun v39_47 =>
        St H_46 v39_47 1 v38_45 fun H_49 =>
        Ok (bin (Z ext) .add 3 x26_31 (.int .i64 1)) fun v40_50 =>
        P_30 [v40_50] H_49)
        (Q (.tuple #[v23_23, (.int .i64 0)]) H_32)) →
        P_30 [x26_31] H_32) →
        P_30 [(.int .i64 0)] H_28) := by
    rw [make29 (by omega) (by omega)]
    simp only [Ok2_some, Int.toNat_natCast, len_29]
    intro P hP
    refine loop_up n (fun i vs H' => vs = [.int .i64 i] ∧ H'.next = H.next + 1 ∧ H'.get H.next = some (.cells (laid n i v) 5) ∧ Ext H H') ?_ ?_ (Nat.zero_le n) ⟨rfl, by simp, by rw [laid_zero]; simp, (Kp.refl _ _).alloc' _⟩
    · rintro i vs H' hi ⟨rfl, h1, h2, h3⟩ k
      apply hP
      have hsh : 0 ≤ 8 * ((n : Int) - 1 - i) := by omega
      simp only [bin_lss, Ok_some, Br_dec, bin_sub, bin_mul]
      refine ⟨fun _ => ?_, fun h => absurd (by omega) h⟩
      simp (disch := omega) only [wrap_i64]
      rw [bin_shr hsh]
      simp only [Ok_some, conv_28_5, Ok2_some, IA_slice, St_ptr, cellsOf_int, List.length_singleton, true_and, bin_add]
      refine ⟨by omega, ?_⟩
      have hb : wrapF .u8 (v.fdiv ((2 ^ min (8 * ((n : Int) - 1 - i)).toNat (bitsF .u64) : Nat) : Int)) = byteAt n v i := by
        have e1 : min (8 * ((n : Int) - 1 - i)).toNat (bitsF .u64) = 8 * (n - 1 - i) := by rw [show bitsF .u64 = 64 from rfl]; omega
        rw [e1, shr8]
        rfl
      rw [hb, wrN_own h2 (by simp)]
      have e2 : 0 + (i : Int).toNat * 1 = i := by omega
      rw [e2, laid_step hi]
      simp only [Option.map_some, Ok_some]
      rw [wrap_i64 (by omega)]
      exact k _ _ ⟨by simp, by simpa using h1, by simp, h3.set' _ (by omega)⟩
    · rintro vs H' ⟨rfl, h1, h2, h3⟩
      apply hP
      simp only [bin_lss, Ok_some, Br_dec]
      exact ⟨fun h => absurd h (by omega), fun _ => hQ _ _ ⟨rfl, h1, by rw [h2, laid_all], h3⟩⟩
  simp only [un_not, Ok_some, Br_ndec]
  refine ⟨fun h => absurd (by omega) h, fun _ => ?_⟩
  simp only [bin_lss, Ok_some, Br_dec, bin_mul]
  refine ⟨fun h8 => ?_, fun h8 => ?_⟩
  · rw [wrap_i64 (by omega), bin_shr (by omega)]
    simp only [Ok_some, bin_neq, Br_ndec]
    refine ⟨fun h => absurd ?_ h, fun _ => main⟩
    have e1 : min (8 * (n : Int)).toNat (bitsF .u64) = 8 * n := by rw [show bitsF .u64 = 64 from rfl]; omega
    rw [e1, shr8]
    exact Int.ediv_eq_zero_of_lt hv.1 hv.2
  · exact main

end Ev
end Go.Proofs.Ytglkgmomnbdkoaa
