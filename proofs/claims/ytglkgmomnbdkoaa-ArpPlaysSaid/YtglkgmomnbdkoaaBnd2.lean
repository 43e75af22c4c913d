/- THERE ARE NEVER MORE THAN EIGHT NEIGHBOURS, and four bodies for each; addresses rise: the walk. No conditions. -/
import Derived.Test.YtglkgmomnbdkoaaBnd1
import Derived.Test.YtglkgmomnbdkoaaRow3
namespace Go.Proofs.Ytglkgmomnbdkoaa
open Go.ChangeShapes Go.WideShapes Go.ChangeAt Go.RowKit Go.Proofs Ev
namespace Ev
variable {W : World} {H : Heap}

/-- One of a script's deeds is read. -/
theorem IA_deed {b o n c i : Nat} {K : Value → Prop} (hi : i < n) (k : K (.pointer (some ⟨b, o + i * 9, some 0⟩))) : IA (.slice (some ⟨b, o, some 0⟩) n c) (.int .i64 i) 9 K := by
  rw [IA_slice]
  exact ⟨by omega, by rwa [Int.toNat_natCast]⟩

theorem rd1_ext {X : Ctx} {b o : Nat} : rd1 X H ⟨b, o, some 0⟩ = X.ext b o := rfl

theorem rdN_arp {b o : Nat} {d : Deed} (h : DeedX W b o d) : rdN (Z (extOf W)) H ⟨b, o + 3, some 0⟩ 5 = some d.arp.cells := by
  simp only [rdN, extN, h.op, h.fm, h.fi, h.tm, h.ti]
  rfl

/-- What holds between deeds. -/
def Inv3 (W : World) (c mb : Nat) (i : Nat) (H : Heap) : Prop := ∃ fp S, CAt (extOf W) H fp c mb S ∧ CaOk S ∧ S.lost ≤ 32 * i

set_option maxHeartbeats 1000000 in
theorem c3 {ip : Int} (hip : 0 ≤ ip ∧ ip < 4294967296) {u : Value} {ds : List Deed} (hu : Script W u ds) (hl : ds.length ≤ maxLen) :
    C (Z (extOf W)) 3 [.int .u32 ip, u] H fun r _ => r = .bool true := by
  refine C_all fun Q hQ => ?_
  apply w3_ok rfl
  simp only [w3]
  refine C_mono (c9 5 ip (by omega)) ?_
  rintro r H1 (⟨h5, -, -⟩ | ⟨-, c, mb, rfl, h1, E1⟩)
  · omega
  have ho1 := new_ok (mac := 5) (ip := ip) (by omega) hip
  simp only [extract_mk, getN_zero, getN_succ, Ok_some, bin_neq, decide_true, Bool.not_true, Br_false, eql_24, Option.isNone_some]
  have hlen : ∃ p cp, u = .slice p ds.length cp := by
    rcases hu with ⟨rfl, rfl⟩ | ⟨b, o, cp, rfl, -⟩
    · exact ⟨_, _, rfl⟩
    · exact ⟨_, _, rfl⟩
  intro P hP
  have hend : ∀ H', C (Z (extOf W)) 14 [] H' fun r H'' => Q r H'' := fun H' => c14 (hQ _ _ rfl)
  refine loop_up (min ds.length 300) (fun i vs H' => vs = [.int .i64 i] ∧ Inv3 W c mb i H') ?_ ?_ (Nat.zero_le _) ⟨rfl, _, _, h1, ho1, by simp⟩
  · rintro i _ H2 hi ⟨rfl, fp, S, h2, ho, hlost⟩ k
    refine hP _ _ ?_
    obtain ⟨p, cp, hue⟩ := hlen
    rcases hu with ⟨rfl, rfl⟩ | ⟨b, o, cp', rfl, hd⟩
    · simp at hi
    obtain ⟨d, hdi⟩ : ∃ d, ds[i]? = some d := ⟨ds[i]'(by omega), List.getElem?_eq_getElem _⟩
    have hx := hd i d hdi
    simp only [len_23, Ok2_some, bin_lss, Ok_some, Br_dec]
    refine ⟨fun _ => ⟨fun _ => ?_, fun h => absurd (by omega) h⟩, fun h => absurd (by omega) h⟩
    intro P2 hP2
    have hnext : ∀ (A : Ca) (fp' : Nat → Prop) (H3 : Heap), CAt (extOf W) H3 fp' c mb A → Kept S A 32 → P2 [] H3 := by
      intro A fp' H3 h3 hk
      refine hP2 _ ?_
      refine C_mono (c13 h3 hk.ok) ?_
      rintro r H4 ⟨o4, f4, E4⟩
      have h4 := h3.kp E4 (fun _ _ => id)
      have hl8 := hk.ok.len
      have htl := tableP_len A
      obtain ⟨q, cq, rfl⟩ := o4.len
      simp only [len_39, Ok2_some, bin_gtr, Ok_some, Br_dec]
      refine ⟨fun h => absurd h (by omega), fun _ => ?_⟩
      intro P3 hP3
      refine loop_up A.all.length (fun j vs H' => vs = [.int .i64 j] ∧ H' = H4) ?_ ?_ (Nat.zero_le _) ⟨rfl, rfl⟩
      · rintro j _ _ hj ⟨rfl, rfl⟩ k3
        refine hP3 _ _ ?_
        rcases o4.2 with ⟨h0, -⟩ | ⟨sb, hsb, hsl, hsg⟩
        · omega
        cases hsb
        obtain ⟨a, ha⟩ : ∃ a, (tableP A)[j]? = some a := ⟨(tableP A)[j]'(by omega), List.getElem?_eq_getElem _⟩
        have hen := hk.ok.findD a.1
        rw [← tableP_get ha] at hen
        have g0 := tableC_get (j := 0) ha (by omega)
        have g2 := tableC_get (j := 2) ha (by omega)
        have g3 := tableC_get (j := 3) ha (by omega)
        have hinc : wrapF .i64 ((j : Int) + 1) = ((j + 1 : Nat) : Int) := by rw [wrap_i64 (by omega)]; simp
        have hjr : (0 : Int) ≤ j ∧ (j : Int) < (A.all.length : Nat) := by omega
        simp only [bin_lss, Ok_some, Br_dec]
        refine ⟨fun _ => ?_, fun h => absurd (by omega) h⟩
        simp only [IA_slice, hjr, and_self, true_and, Int.toNat_natCast, Nat.zero_add, FA_ptr, Ld1_ptr, rd1_own hsg, getN_eq, g0, g2, g3, nbC, List.getElem?_cons_zero, List.getElem?_cons_succ, Ok_some, bin_gtr, Br_bool, decide_eq_true_eq, decide_eq_false_iff_not]
        refine ⟨fun h => absurd h (by have := hen.wait; omega), fun _ => ⟨fun hkn => ⟨fun h => absurd h (by rw [hen.known hkn]; simp), fun _ => ⟨fun hj0 => ?_, fun hj0 => ?_⟩⟩, fun hkn => ⟨fun hj0 => ?_, fun hj0 => ?_⟩⟩⟩
        · simp only [bin_sub, Ok_some]
          rw [wrap_i64 (by omega)]
          obtain ⟨a', ha'⟩ : ∃ a', (tableP A)[j - 1]? = some a' := ⟨(tableP A)[j - 1]'(by omega), List.getElem?_eq_getElem _⟩
          have g0' := tableC_get (j := 0) ha' (by omega)
          have hr := tableP_rises hk.ok (show j - 1 < j by omega) ha' ha
          have hjp : ((j : Int) - 1).toNat = j - 1 := by omega
          simp only [IA_slice]
          refine ⟨by omega, ?_⟩
          simp only [hjp, Nat.zero_add, FA_ptr, Ld1_ptr, rd1_own hsg, getN_eq, g0', nbC, List.getElem?_cons_zero, Ok_some, bin_leq, Br_dec, bin_add, hinc]
          exact ⟨fun h => absurd h (by omega), fun _ => k3 _ _ ⟨rfl, rfl⟩⟩
        · simp only [bin_add, Ok_some, hinc]; exact k3 _ _ ⟨rfl, rfl⟩
        · simp only [bin_sub, Ok_some]
          rw [wrap_i64 (by omega)]
          obtain ⟨a', ha'⟩ : ∃ a', (tableP A)[j - 1]? = some a' := ⟨(tableP A)[j - 1]'(by omega), List.getElem?_eq_getElem _⟩
          have g0' := tableC_get (j := 0) ha' (by omega)
          have hr := tableP_rises hk.ok (show j - 1 < j by omega) ha' ha
          have hjp : ((j : Int) - 1).toNat = j - 1 := by omega
          simp only [IA_slice]
          refine ⟨by omega, ?_⟩
          simp only [hjp, Nat.zero_add, FA_ptr, Ld1_ptr, rd1_own hsg, getN_eq, g0', nbC, List.getElem?_cons_zero, Ok_some, bin_leq, Br_dec, bin_add, hinc]
          exact ⟨fun h => absurd h (by omega), fun _ => k3 _ _ ⟨rfl, rfl⟩⟩
        · simp only [bin_add, Ok_some, hinc]; exact k3 _ _ ⟨rfl, rfl⟩
      · rintro _ _ ⟨rfl, rfl⟩
        refine hP3 _ _ ?_
        simp only [bin_lss, Ok_some, Br_dec, bin_add]
        refine ⟨fun h => absurd h (by omega), fun _ => ?_⟩
        rw [wrap_i64 (by omega)]
        exact k _ _ ⟨by simp, fp', A, h4, hk.ok, by have := hk.lost; push_cast; omega⟩
    have hlost2 : S.lost < 4611686018427387904 := by omega
    obtain ⟨bv, hbv, hbx, hbl⟩ := hx.body
    have hnow := hx.now
    refine IA_deed (by omega) ?_
    simp only [FA_ptr, Ld1_ptr, rd1_ext, Nat.add_zero, hx.do_, Ok_some, bin_eql, Br_dec]
    refine ⟨fun h0 => ?_, fun h0 => ⟨fun h1' => ?_, fun h1' => ?_⟩⟩
    · refine IA_deed (by omega) ?_
      simp only [FA_ptr, Ld1_ptr, rd1_ext, hx.to, Ok_some]
      refine IA_deed (by omega) ?_
      simp only [FA_ptr, Ld1_ptr, rd1_ext, hbv, Ok_some]
      refine IA_deed (by omega) ?_
      simp only [FA_ptr, Ld1_ptr, rd1_ext, hx.now, Ok_some]
      refine C_mono (c10 h2 ho hlost2 hx.toR (hbx.2 H2) (fun b hb => by rw [hbx.1] at hb; cases hb) d.now) ?_
      rintro _ H3 ⟨fv, fp', rfl, h3, -, -, -⟩
      exact hnext _ _ _ h3 (send_kept ho hx.toR _ _)
    · refine IA_deed (by omega) ?_
      simp only [FA_ptr, LdN_ptr, rdN_arp hx, Ok_some]
      refine IA_deed (by omega) ?_
      simp only [FA_ptr, Ld1_ptr, rd1_ext, hx.now, Ok_some]
      refine C_mono (c11 h2 ho hx.arp d.now) ?_
      rintro _ H3 ⟨fv, rfl, h3, -, -⟩
      exact hnext _ _ _ h3 (take_kept ho hx.arp _)
    · refine IA_deed (by omega) ?_
      simp only [FA_ptr, Ld1_ptr, rd1_ext, hx.now, Ok_some]
      refine C_mono (c12 h2 ho hlost2 d.now) ?_
      rintro _ H3 ⟨fv, rfl, h3, -, -⟩
      exact hnext _ _ _ h3 (tick_kept ho _)
  · rintro _ H2 ⟨rfl, -⟩
    refine hP _ _ ?_
    obtain ⟨p, cp, rfl⟩ := hlen
    simp only [len_23, Ok2_some, bin_lss, Ok_some, Br_dec]
    refine ⟨fun h => ⟨fun h' => absurd h' (by omega), fun _ => hend _⟩, fun _ => hend _⟩

end Ev
end Go.Proofs.Ytglkgmomnbdkoaa
