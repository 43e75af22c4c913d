/- A NEIGHBOUR THAT NEVER ANSWERS IS ASKED THREE TIMES, and then forgotten, with what waits: the walk. No conditions. -/
import Derived.Test.YtglkgmomnbdkoaaBnd1
import Derived.Test.YtglkgmomnbdkoaaRow3
namespace Go.Proofs.Ytglkgmomnbdkoaa
open Go.ChangeShapes Go.WideShapes Go.ChangeAt Go.RowKit Go.Proofs Ev
namespace Ev
variable {W : World} {H : Heap}

theorem bin_rem {X : Ctx} {t : TypeId} {k : IntKind} {a b : Int} (hb : b ≠ 0) : bin X .rem t (.int k a) (.int k b) = some (.int k (a.tmod b)) := by
  simp [bin, intOp, hb]

def waitK (k : Nat) : List (List Int) := List.replicate k [1]
/-- One neighbour that is asked for. -/
def askS (ip to last t a : Int) (k : Nat) : Ca := ⟨5, ip, last, [(to, ⟨false, 0, t, a, waitK k⟩)], 0⟩
def goneS (ip last : Int) (k : Nat) : Ca := ⟨5, ip, last, [], k⟩

theorem waitK_succ (k : Nat) : waitK k ++ [[1]] = waitK (k + 1) := by
  simp [waitK, ← List.replicate_succ']

theorem ask_ok {ip to last t a : Int} {k : Nat} (hi : 0 ≤ ip ∧ ip < 4294967296) (ht : 0 ≤ to ∧ to < 4294967296) (hl : 0 ≤ last ∧ last ≤ 1099511627776) (htt : 0 ≤ t ∧ t ≤ 1099511627776) (ha : 0 ≤ a ∧ a ≤ 3) (hk : k ≤ 4) : CaOk (askS ip to last t a k) := by
  refine ⟨by simp [askS], hi, hl, by simp [askS], by simp [askS], by simp [askS], ?_, ?_⟩
  · intro x hx; simp [askS] at hx; subst hx; exact ht
  · intro x hx
    simp [askS] at hx
    subst hx
    exact ⟨by simp, htt, ha, by simpa [waitK] using hk, by intro b hb; simp [waitK] at hb; rw [hb.2]; simp, by simp⟩

theorem gone_ok {ip last : Int} {k : Nat} (hi : 0 ≤ ip ∧ ip < 4294967296) (hl : 0 ≤ last ∧ last ≤ 1099511627776) : CaOk (goneS ip last k) :=
  ⟨by simp [goneS], hi, hl, by simp [goneS], by simp [goneS], by simp [goneS], by simp [goneS], by simp [goneS]⟩

theorem send_first {ip to : Int} : send ⟨5, ip, 0, [], 0⟩ to [1] 0 = (askS ip to 0 0 1 1, [frameB 281474976710655 5 2054 (arpB 1 5 ip 0 to)], 0) := by
  simp [send, bgn, sendB, fnd, en0, roomP, put, askS, waitK]

theorem send_more {ip to : Int} {i : Nat} (h1 : 1 ≤ i) (h4 : i < 4) : send (askS ip to 0 0 1 i) to [1] 0 = (askS ip to 0 0 1 (i + 1), [], 0) := by
  have : ¬ i = 4 := by omega
  simp [send, bgn, sendB, fnd, put, askS, waitK, this, List.replicate_succ']

theorem sortL_one (x : Int) : sortL [x] = [x] := rfl

theorem tick_ask {ip to last t a now : Int} {k : Nat} (hn : 0 ≤ now ∧ now ≤ 1099511627776) (hl : last ≤ now) : tick (askS ip to last t a k) now =
    if 10 ≤ now - t ∧ 3 ≤ a then (goneS ip now k, [], 0) else if 10 ≤ now - t then (askS ip to now now (a + 1) k, [frameB 281474976710655 5 2054 (arpB 1 5 ip 0 to)], 0) else (askS ip to now t a k, [], 0) := by
  have hb : bgn (askS ip to last t a k) now = (0, askS ip to now t a k) := by
    unfold bgn
    rw [if_neg (by omega), if_neg (by simp [askS]; omega)]
    rfl
  unfold tick
  rw [hb]
  simp only [ne_eq, not_true, if_false]
  unfold tickB
  have hs : sortL ((askS ip to now t a k).all.map (·.1)) = [to] := rfl
  rw [hs]
  simp only [List.foldl_cons, List.foldl_nil, tickF]
  simp only [askS, fnd, if_true, Option.getD_some, del, put, goneS]
  simp only [Bool.false_eq_true, false_and, false_or, true_and]
  by_cases h1 : 10 ≤ now - t <;> by_cases h2 : 3 ≤ a <;> simp [h1, h2, waitK]

theorem tick_gone {ip last now : Int} {k : Nat} (hn : 0 ≤ now ∧ now ≤ 1099511627776) (hl : last ≤ now) : tick (goneS ip last k) now = (goneS ip now k, [], 0) := by
  have hb : bgn (goneS ip last k) now = (0, goneS ip now k) := by
    unfold bgn
    rw [if_neg (by omega), if_neg (by simp [goneS]; omega)]
    rfl
  unfold tick
  rw [hb]
  rfl

/-- What holds between ticks: asked for, or gone. -/
def AskI (ip to : Int) (k : Nat) (now asked : Int) (S : Ca) : Prop :=
  (∃ t, S = askS ip to now t asked k ∧ (0 ≤ t ∧ t ≤ now) ∧ now - t < 10 ∧ 1 ≤ asked ∧ asked ≤ 3 ∧ (asked = 1 → t = 0)) ∨ (S = goneS ip now k ∧ asked = 3)

set_option maxHeartbeats 1000000 in
theorem c6 {to n : Int} (hto : 0 ≤ to ∧ to < 4294967296) (hn : 0 ≤ n ∧ n < 256) {u : Value} {st : List Int} (hu : BX W u st) (hl : st.length ≤ maxLen) :
    C (Z (extOf W)) 6 [.int .u32 to, .int .u8 n, u] H fun r _ => r = .bool true := by
  refine C_all fun Q hQ => ?_
  apply w6_ok rfl
  simp only [w6, bin_add, Ok_some]
  obtain ⟨ip, hip, hipr⟩ : ∃ ip, wrapF .u32 (to + 1) = ip ∧ 0 ≤ ip ∧ ip < 4294967296 := ⟨_, rfl, by simp only [wrapF]; omega, by simp only [wrapF]; omega⟩
  rw [hip]
  refine C_mono (c9 5 ip (by omega)) ?_
  rintro r H1 (⟨h5, -, -⟩ | ⟨-, c, mb, rfl, h1, E1⟩)
  · omega
  have ho1 := new_ok (mac := 5) (ip := ip) (by omega) hipr
  simp only [extract_mk, getN_zero, getN_succ, Ok_some, bin_neq, decide_true, Bool.not_true, Br_false, eql_24, Option.isNone_some, conv_5_3, Ok2_some]
  rw [wrap_i64 (by omega), bin_rem (by omega), Int.tmod_eq_emod_of_nonneg hn.1]
  simp only [Ok_some, bin_add]
  rw [wrap_i64 (by omega)]
  obtain ⟨k, hk, hkr⟩ : ∃ k : Nat, 1 + n % 4 = (k : Int) ∧ 1 ≤ k ∧ k ≤ 4 := ⟨(1 + n % 4).toNat, by omega, by omega, by omega⟩
  rw [hk]
  obtain ⟨pu, cu, rfl⟩ := (hu.2 H).shape
  intro P hP
  have stOf : Nat → Ca := fun i => if i = 0 then ⟨5, ip, 0, [], 0⟩ else askS ip to 0 0 1 i
  refine loop_up k (fun i vs H' => vs = [.int .i64 i] ∧ ∃ fp, CAt (extOf W) H' fp c mb (if i = 0 then ⟨5, ip, 0, [], 0⟩ else askS ip to 0 0 1 i)) ?_ ?_ (Nat.zero_le _) ⟨rfl, _, h1⟩
  · rintro i _ H2 hi ⟨rfl, fp, h2⟩ kk
    refine hP _ _ ?_
    simp only [bin_lss, Ok_some, Br_dec]
    refine ⟨fun _ => ?_, fun h => absurd (by omega) h⟩
    rw [bsl_29_1 _ (by simp), Ok2_some]
    have E3 : Ext H2 (H2.alloc (.cells [.int .u8 1] 5)) := .alloc _ _ _
    have h3 := h2.kp E3 (fun _ _ => id)
    have hb3 : BAt (extOf W) (H2.alloc (.cells [.int .u8 1] 5)) (.slice (some ⟨H2.next, 0, none⟩) 1 1) [1] :=
      ⟨⟨_, _, rfl⟩, by rw [cellsAt_own (Heap.get_alloc_self _ _) (by simp)]; rfl, by intro b hb; simp at hb; omega, by intro b hb; simp [bk] at hb; subst hb; simp⟩
    have hoi : CaOk (if i = 0 then ⟨5, ip, 0, [], 0⟩ else askS ip to 0 0 1 i) := by
      split
      · exact ho1
      · exact ask_ok hipr hto (by omega) (by omega) (by omega) (by omega)
    refine C_mono (c10 h3 hoi (by split <;> simp [askS]) hto hb3 (fun b hb hf => by simp [bk] at hb; subst hb; have := h2.lt _ hf; omega) 0) ?_
    rintro _ H4 ⟨fv, fp', rfl, h4, -, -, -⟩
    simp only [bin_add, Ok_some]
    rw [wrap_i64 (by omega)]
    refine kk _ _ ⟨by simp, fp', ?_⟩
    rw [if_neg (by omega)]
    by_cases hi0 : i = 0
    · subst hi0
      rw [if_pos rfl, send_first] at h4
      exact h4
    · rw [if_neg hi0, send_more (by omega) (by omega)] at h4
      exact h4
  · rintro _ H2 ⟨rfl, fp, h2⟩
    refine hP _ _ ?_
    rw [if_neg (by omega)] at h2
    simp only [bin_lss, Ok_some, Br_dec]
    refine ⟨fun h => absurd h (by omega), fun _ => ?_⟩
    intro P2 hP2
    have hend : ∀ (now asked : Int) (S : Ca) (fp' : Nat → Prop) (H' : Heap), CAt (extOf W) H' fp' c mb S → AskI ip to k now asked S → C (Z (extOf W)) 14 [] H' fun v98 H_141 =>
        Br v98 (Ok (bin (Z (extOf W)) .lss 3 (.int .i64 now) (.int .i64 30)) fun v101 => Br v101 (Q (.bool true) H_141) (Ok (bin (Z (extOf W)) .gtr 3 (.int .i64 asked) (.int .i64 1)) fun v104 => Br v104 (Q (.bool true) H_141)
          (C (Z (extOf W)) 17 [.pointer (some ⟨c, 0, none⟩)] H_141 fun v108 H_160 => Ok (bin (Z (extOf W)) .eql 3 v108 (.int .i64 k)) fun v110 => Q v110 H_160))) (Q (.bool false) H_141) := by
      intro now asked S fp' H' hA hI
      refine c14 ?_
      simp only [Br_true, bin_lss, Ok_some, Br_dec, bin_gtr]
      refine ⟨fun _ => hQ _ _ rfl, fun h30 => ⟨fun _ => hQ _ _ rfl, fun h1' => ?_⟩⟩
      rcases hI with ⟨t, rfl, ht, hd, ha1, ha3, hat⟩ | ⟨rfl, hg3⟩
      · exact absurd (hat (by omega)) (by omega)
      · omega
    refine loop_up (min st.length 100) (fun i vs H' => ∃ now asked S fp', vs = [.int .i64 now, .int .i64 asked, .int .i64 i] ∧ CAt (extOf W) H' fp' c mb S ∧ AskI ip to k now asked S ∧ (0 ≤ now ∧ now ≤ 24 * i)) ?_ ?_ (Nat.zero_le _)
      ⟨0, 1, _, fp, rfl, h2, .inl ⟨0, rfl, by omega, by omega, by omega, by omega, fun _ => rfl⟩, by omega⟩
    · rintro i _ H3 hi ⟨now, asked, S, fp', rfl, h3, hI, hnow⟩ kk
      refine hP2 _ _ _ _ ?_
      obtain ⟨b, hbi⟩ : ∃ b, st[i]? = some b := ⟨st[i]'(by omega), List.getElem?_eq_getElem _⟩
      have hbat := hu.2 H3
      have hbr := hbat.byt b (List.mem_of_getElem? hbi)
      simp only [len_29, Ok2_some, bin_lss, Ok_some, Br_dec]
      refine ⟨fun _ => ⟨fun _ => ?_, fun h => absurd (by omega) h⟩, fun h => absurd (by omega) h⟩
      cases pu with
      | none => have := (cellsAt_nil hbat.cells).1; omega
      | some pa =>
        have hrd := rd1_cellsAt hbat.cells (show i < st.length by omega)
        obtain ⟨pb, po, ps⟩ := pa
        have hcell : (B8 st)[i]? = some (.int .u8 b) := by simp [B8, hbi]
        rw [hcell] at hrd
        simp only at hrd
        simp only [IA_slice]
        refine ⟨by omega, ?_⟩
        have e1 : po + (i : Int).toNat * 1 = po + i := by omega
        simp only [e1, Ld1_ptr, hrd, Ok_some, conv_5_3, Ok2_some]
        rw [wrap_i64 (by omega), bin_rem (by omega), Int.tmod_eq_emod_of_nonneg hbr.1]
        simp only [Ok_some, bin_add]
        rw [wrap_i64 (by omega)]
        generalize hnx : now + b % 25 = nx
        have hnxr : now ≤ nx ∧ nx ≤ 24 * (i + 1) := by omega
        have hinc : wrapF .i64 ((i : Int) + 1) = ((i + 1 : Nat) : Int) := by rw [wrap_i64 (by omega)]; simp
        have hok : CaOk S ∧ S.lost < 4611686018427387904 := by
          rcases hI with ⟨t, rfl, ht, hd, ha1, ha3, hat⟩ | ⟨rfl, hg3⟩
          · exact ⟨ask_ok hipr hto (by omega) (by omega) (by omega) (by omega), by simp [askS]⟩
          · exact ⟨gone_ok hipr (by omega), by simp [goneS]; omega⟩
        refine C_mono (c12 h3 hok.1 hok.2 nx) ?_
        rintro _ H4 ⟨fv, rfl, h4, hF, -⟩
        have hok4 := (tick_kept hok.1 nx).ok
        -- where the tick leads
        have htk : ∃ S' fs asked', tick S nx = (S', fs, 0) ∧ AskI ip to k nx asked' S' ∧ asked' = asked + fs.length ∧ fs.length ≤ 1 := by
          rcases hI with ⟨t, rfl, ht, hd, ha1, ha3, hat⟩ | ⟨rfl, hg3⟩
          · rw [tick_ask (by omega) (by omega)]
            split
            · exact ⟨_, _, asked, rfl, .inr ⟨rfl, by omega⟩, by simp, by simp⟩
            · split
              · exact ⟨_, _, asked + 1, rfl, .inl ⟨nx, rfl, by omega, by omega, by omega, by omega, by omega⟩, by simp, by simp⟩
              · exact ⟨_, _, asked, rfl, .inl ⟨t, rfl, by omega, by omega, by omega, by omega, hat⟩, by simp, by simp⟩
          · rw [tick_gone (by omega) (by omega)]
            exact ⟨_, _, asked, rfl, .inr ⟨rfl, hg3⟩, by simp, by simp⟩
        obtain ⟨S', fs, asked', hte, hI', has, hfl⟩ := htk
        rw [hte] at h4 hF hok4 ⊢
        obtain ⟨vs, pf, cf, rfl, -, -⟩ := hF.ex
        have har : 1 ≤ asked' ∧ asked' ≤ 3 := by
          rcases hI' with ⟨t, rfl, ht, hd, ha1, ha3, hat⟩ | ⟨rfl, hg3⟩ <;> omega
        simp only [extract_mk, getN_zero, getN_succ, Ok_some, bin_neq, decide_true, Bool.not_true, Br_false, len_34, Ok2_some, bin_gtr, Br_dec, bin_add]
        refine ⟨fun h => absurd h (by omega), fun _ => ?_⟩
        rw [wrap_i64 (n := asked + fs.length) (by omega), ← has]
        refine C_mono (c13 h4 hok4) ?_
        rintro r H5 ⟨o5, f5, E5⟩
        have h5 := h4.kp E5 (fun _ _ => id)
        obtain ⟨q, cq, rfl⟩ := o5.len
        simp only [len_39, Ok2_some, bin_eql, Ok_some]
        refine C_mono (c17 h5) ?_
        rintro _ _ ⟨rfl, rfl⟩
        simp only [bin_eql, Ok_some, neq_4, hinc]
        have hnext : P2 [.int .i64 nx, .int .i64 asked', .int .i64 ((i + 1 : Nat) : Int)] H5 := kk _ _ ⟨nx, asked', S', fp', rfl, h5, hI', by push_cast; omega⟩
        rcases hI' with ⟨t, rfl, ht, hd, ha1, ha3, hat⟩ | ⟨rfl, hg3⟩
        · have d1 : decide ((((askS ip to nx t asked' k).all.length : Nat) : Int) = 0) = false := by simp [askS]
          have d2 : decide ((askS ip to nx t asked' k).lost = (k : Int)) = false := decide_eq_false (by simp [askS]; omega)
          rw [d1, d2]
          simp only [BEq.rfl, Bool.not_true, Br_false, bin_gtr, Ok_some, Br_dec, bin_add, hinc]
          exact ⟨fun h => absurd h (by omega), fun _ => hnext⟩
        · have d1 : decide ((((goneS ip nx k).all.length : Nat) : Int) = 0) = true := by simp [goneS]
          have d2 : decide ((goneS ip nx k).lost = (k : Int)) = true := by simp [goneS]
          rw [d1, d2]
          have d3 : decide (asked' = 3) = true := by simp [hg3]
          simp only [BEq.rfl, Bool.not_true, Br_false, Br_true, bin_neq, d3, bin_gtr, Ok_some, Br_dec, bin_add, hinc]
          exact ⟨fun h => absurd h (by omega), fun _ => hnext⟩
    · rintro _ H3 ⟨now, asked, S, fp', rfl, h3, hI, hnow⟩
      refine hP2 _ _ _ _ ?_
      simp only [len_29, Ok2_some, bin_lss, Ok_some, Br_dec]
      have hE := hend now asked S fp' H3 h3 hI
      simp only [bin_lss, Ok_some, Br_dec] at hE
      exact ⟨fun h => ⟨fun h' => absurd h' (by omega), fun _ => hE⟩, fun _ => hE⟩

end Ev
end Go.Proofs.Ytglkgmomnbdkoaa
