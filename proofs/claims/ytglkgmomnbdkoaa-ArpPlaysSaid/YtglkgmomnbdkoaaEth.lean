/- Contracts of frames and questions (ether), by the predicates of their texts. -/
import Derived.Test.YtglkgmomnbdkoaaOct
namespace Go.Proofs.Ytglkgmomnbdkoaa
namespace Ev
variable {ext : Nat → Nat → Option Value} {H : Heap}

/-- The block of a slice's cells, if they lie in the run's own memory. -/
def bk : Value → Option Nat
  | .slice (some ⟨b, _, none⟩) _ _ => some b
  | _ => none

/-- Bytes that a slice shows. -/
structure BAt (ext : Nat → Nat → Option Value) (H : Heap) (v : Value) (bs : List Int) : Prop where
  shape : ∃ p c, v = .slice p bs.length c
  cells : cellsAt (Z ext) H bs.length v = some (B8 bs)
  byt : Byt bs
  lt : ∀ b, bk v = some b → b < H.next

theorem cellsAt_kp {X : Ctx} {S : Nat → Prop} {H H' : Heap} (hk : Kp S H H') {n : Nat} {v : Value} {cs : List Value} (h : cellsAt X H n v = some cs) (hlt : ∀ b, bk v = some b → b < H.next) (hS : ∀ b, bk v = some b → ¬ S b) : cellsAt X H' n v = some cs := by
  unfold cellsAt at h ⊢
  split at h
  · rename_i a l c
    cases hb : Nat.beq n 0 with
    | true => rw [hb] at h; exact h
    | false =>
      rw [hb] at h
      simp only [cond_false] at h ⊢
      obtain ⟨b, o, s⟩ := a
      cases s with
      | none =>
        have := hk.get b (hlt b rfl) (hS b rfl)
        simp only [rdN] at h ⊢
        rw [this]; exact h
      | some s => cases s <;> exact h
  · exact h
  · cases h

theorem BAt.kp {S : Nat → Prop} {H' : Heap} {v : Value} {bs : List Int} (h : BAt ext H v bs) (hk : Kp S H H') (hS : ∀ b, bk v = some b → ¬ S b) : BAt ext H' v bs :=
  ⟨h.shape, cellsAt_kp hk h.cells h.lt hS, h.byt, fun b hb => Nat.lt_of_lt_of_le (h.lt b hb) hk.le⟩
theorem BAt.up {H' : Heap} {v : Value} {bs : List Int} (h : BAt ext H v bs) (hk : Ext H H') : BAt ext H' v bs := h.kp hk fun _ _ => id

/-- A slice that is new, and its bytes. -/
def Fr (H H' : Heap) (v : Value) (bs : List Int) : Prop := ∃ b, v = .slice (some ⟨b, 0, none⟩) bs.length (unk + 1) ∧ H.next ≤ b ∧ b < H'.next ∧ H'.get b = some (.cells (B8 bs) 5)

/-- Appending bytes. -/
theorem app29 {s x : Value} {n : Nat} {bs xs : List Int} (hs : Own H s 1 n (B8 bs) 5) (hx : ∃ p c, x = .slice p xs.length c) (hc : cellsAt (Z ext) H xs.length x = some (B8 xs)) (hn : 2 * (n + xs.length) ≤ 281474976710656) :
    ∃ v' H', builtin (Z ext) H .append [29, 29] [s, x] = some (v', H') ∧ Own H' v' 1 (n + xs.length) (B8 (bs ++ xs)) 5 ∧ Kp (fun b => ob s = some b) H H' ∧
      ((ob v' = ob s ∧ H' = H ∧ v' = s ∧ xs.length = 0) ∨ (ob v' = some H.next ∧ H'.next = H.next + 1 ∧ xs.length ≠ 0 ∧ v' = .slice (some ⟨H.next, 0, none⟩) (n + xs.length) (unk + 1))) := by
  obtain ⟨p, c, rfl⟩ := hx
  obtain ⟨v', H', h1, h2, h3, h4⟩ := append_own (X := Z ext) (st := 29) (xt := 29) (i := Tab.i29) (ix := Tab.i29) (ie := Tab.i5) (z := 1) (nx := xs.length) (xs := B8 xs) (x := .slice p xs.length c) tt_29 rfl tt_29 (by intro k; simp [Tab.i29]) tt_5 rfl (by omega) (by decide) rfl hs rfl
    (by simpa [srcCells] using hc) (B8_one xs) (by simp) (by simpa [Tab.i5] using hn)
  exact ⟨v', H', by simpa [builtin] using h1, by rw [B8_append]; exact h2, h3, h4⟩

def catp (ps : List (Nat × Int)) : List Int := ps.flatMap fun p => be p.1 p.2
def pairs (ps : List (Nat × Int)) : List Value := ps.flatMap fun p => [.int .u64 p.1, .int .u64 p.2]

theorem pairs_len (ps : List (Nat × Int)) : (pairs ps).length = ps.length * 2 := by
  induction ps with
  | nil => rfl
  | cons p ps ih => simp [pairs] at ih ⊢; omega

theorem pairs_cut : ∀ {ps : List (Nat × Int)} {i : Nat} {p : Nat × Int}, ps[i]? = some p → cutN (i * 2) 2 (pairs ps) = some [.int .u64 p.1, .int .u64 p.2]
  | [], i, p, h => by simp at h
  | q :: ps, 0, p, h => by
    simp at h; subst h
    rw [cutN_of (by rw [pairs_len, List.length_cons]; omega)]
    rfl
  | q :: ps, i + 1, p, h => by
    have := pairs_cut (ps := ps) (i := i) (by simpa using h)
    have hi : i < ps.length := by
      rcases Nat.lt_or_ge i ps.length with h' | h'
      · exact h'
      · rw [List.getElem?_cons_succ, List.getElem?_eq_none h'] at h; cases h
    rw [cutN_of (by rw [pairs_len]; omega)] at this
    rw [cutN_of (by rw [pairs_len, List.length_cons]; omega)]
    rw [show (i + 1) * 2 = i * 2 + 1 + 1 by omega]
    exact this

theorem catp_len {ps : List (Nat × Int)} (h : ∀ p ∈ ps, p.1 ≤ 8) : (catp ps).length ≤ 8 * ps.length := by
  induction ps with
  | nil => simp [catp]
  | cons p ps ih =>
    have h1 := ih fun q hq => h q (List.mem_cons_of_mem _ hq)
    have h2 := h p List.mem_cons_self
    simp only [catp, List.flatMap_cons, List.length_append, be_length, List.length_cons] at h1 ⊢
    omega

theorem catp_byt (ps : List (Nat × Int)) : Byt (catp ps) := by
  intro b hb
  obtain ⟨p, -, hp⟩ := List.mem_flatMap.1 hb
  exact be_byt _ _ b hp

/-- Pairs of lengths and numbers are laid one behind the other. -/
theorem c51 {ps : List (Nat × Int)} (hps : ∀ p ∈ ps, (1 ≤ p.1 ∧ p.1 ≤ 8) ∧ 0 ≤ p.2 ∧ p.2 < 256 ^ p.1) (hl : ps.length ≤ 100) {b : Nat} (hb : H.get b = some (.cells (pairs ps) 101)) (hlt : b < H.next) :
    C (Z ext) 51 [.slice none 0 0, .slice (some ⟨b, 0, none⟩) ps.length ps.length] H fun r H' => Own H' r 1 (catp ps).length (B8 (catp ps)) 5 ∧ (∀ b, ob r = some b → H.next ≤ b) ∧ Ext H H' := by
  refine C_all fun Q hQ => ?_
  apply w51_ok rfl
  simp only [w51, len_111, Ok2_some]
  intro P hP
  have h8 := catp_len (ps := ps) fun p hp => (hps p hp).1.2
  refine loop_up ps.length (fun i vs H' => ∃ x, vs = [x, .int .i64 i] ∧ Own H' x 1 (catp (ps.take i)).length (B8 (catp (ps.take i))) 5 ∧ (∀ b, ob x = some b → H.next ≤ b) ∧ Ext H H') ?_ ?_ (Nat.zero_le _)
    ⟨_, rfl, .nil _ _ _ _, by simp [ob], .refl _ _⟩
  · rintro i vs H1 hi ⟨x, rfl, ho, hx, hE⟩ k
    apply hP
    obtain ⟨p, hp⟩ : ∃ p, ps[i]? = some p := ⟨ps[i], List.getElem?_eq_getElem hi⟩
    have hpp := hps p (List.mem_of_getElem? hp)
    have hb1 : H1.get b = some (.cells (pairs ps) 101) := by rw [hE.get' hlt, hb]
    simp only [bin_lss, Ok_some, Br_dec]
    refine ⟨fun _ => ?_, fun h => absurd (by omega) h⟩
    simp only [IA_slice]
    refine ⟨by omega, ?_⟩
    have e1 : 0 + (i : Int).toNat * 2 = i * 2 := by omega
    simp only [e1, LdN_ptr, rdN_own hb1, pairs_cut hp, Ok_some, Al_eq, St_ptr, cellsOf_agg]
    refine ⟨rfl, ?_⟩
    rw [wrN_own (Heap.get_alloc_self _ _) (by simp)]
    simp only [splice_of (show 0 + [Value.int IntKind.u64 ↑p.1, Value.int IntKind.u64 p.2].length ≤ [Value.int IntKind.u64 0, Value.int IntKind.u64 0].length by simp), Option.map_some, Ok_some]
    simp only [IAr_ptr]
    refine ⟨by omega, ?_⟩
    simp only [Ld1_ptr, rd1_own (Heap.get_set_self _ _ _)]
    simp only [List.take_zero, List.nil_append, List.length_cons, List.length_nil, List.cons_append, Int.toNat_one, Int.toNat_zero, Nat.zero_add, Nat.one_mul, Nat.zero_mul, getN_zero, getN_succ, Ok_some]
    refine ⟨by omega, ?_⟩
    simp only [conv_28_3, Ok2_some]
    rw [wrap_i64 (by omega)]
    refine C_mono (c62 hpp.1 hpp.2) ?_
    rintro r H2 ⟨rfl, hn2, hg2, hE2⟩
    have hE02 : Ext H1 H2 := ((Kp.alloc _ _ _).set' _ (by simp)).trans hE2
    simp only [extract_mk, getN_zero, getN_succ, Ok_some]
    have ho2 := ho.kp hE02 (fun _ _ => id)
    obtain ⟨v', H3, e3, o3, k3, hob⟩ := app29 (ext := ext) ho2 (x := .slice (some ⟨(((H1.alloc (Blk.cells [Value.int IntKind.u64 0, Value.int IntKind.u64 0] 101)).set H1.next (Blk.cells (Value.int IntKind.u64 ↑p.1 :: Value.int IntKind.u64 p.2 :: List.drop (0 + 1 + 1) [Value.int IntKind.u64 0, Value.int IntKind.u64 0]) 101))).next, 0, none⟩) p.1 p.1) (xs := be p.1 p.2) ⟨_, _, by rw [be_length]⟩
      (by rw [cellsAt_own hg2 (by simp), be_length, List.drop_zero, List.take_of_length_le (by simp)]) (by rw [be_length]; have := catp_len (ps := ps.take i) (fun p hp => (hps p (List.mem_of_mem_take hp)).1.2); simp at this; omega)
    refine Ok2_of e3 ?_
    simp only [bin_add, Ok_some]
    rw [wrap_i64 (by omega)]
    refine k _ _ ⟨v', rfl, ?_, ?_, ?_⟩
    · have : catp (ps.take (i + 1)) = catp (ps.take i) ++ be p.1 p.2 := by
        rw [List.take_add_one, hp]; simp [catp]
      rw [this]
      simpa using o3
    · intro c hc
      rcases hob with ⟨h1, -⟩ | ⟨h1, -⟩
      · exact hx c (by rw [← h1]; exact hc)
      · rw [h1] at hc; cases hc; exact Nat.le_trans hE.le hE02.le
    · exact (hE.trans hE02).then k3 fun c hc hs => absurd (hx c hs) (by omega)
  · rintro vs H' ⟨x, rfl, ho, hx, hE⟩
    apply hP
    simp only [bin_lss, Ok_some, Br_dec]
    refine ⟨fun h => absurd h (by omega), fun _ => hQ _ _ ⟨?_, hx, hE⟩⟩
    rwa [List.take_length] at ho

/-! cards' addresses -/
theorem big_iff {m : Int} (hm : 0 ≤ m) : m / 256 ^ 6 = 0 ↔ m < 281474976710656 := by
  rw [show (256 : Int) ^ 6 = 281474976710656 from rfl]
  constructor <;> intro h <;> omega

theorem c61 {m : Int} (hm : 0 ≤ m) : C (Z ext) 61 [.int .u64 m] H fun v H' => v = .bool (!decide (m < 281474976710656)) ∧ H = H' := by
  refine C_all fun Q hQ => ?_
  apply w61_ok rfl
  simp only [w61]
  rw [bin_shr (by omega)]
  simp only [Ok_some, bin_neq]
  refine hQ _ _ ⟨?_, rfl⟩
  have e1 : min (48 : Int).toNat (bitsF .u64) = 8 * 6 := rfl
  rw [e1, shr8]
  congr 2
  exact decide_eq_decide.2 (big_iff hm)

/-- Which of some numbers is the first that is no card's address. -/
theorem c70 {l : List Int} (hl : ∀ m ∈ l, 0 ≤ m) (h9 : l.length < 1000) {b : Nat} (hb : H.get b = some (.cells (l.map (.int .u64)) 28)) :
    C (Z ext) 70 [.slice (some ⟨b, 0, none⟩) l.length l.length, .func (.func 61) #[] #[]] H fun v H' => (∃ k : Int, v = .int .i64 k ∧ (0 ≤ k ↔ ¬ ∀ m ∈ l, m < 281474976710656)) ∧ H = H' := by
  refine C_all fun Q hQ => ?_
  apply w70_ok rfl
  simp only [w70, len_107, Ok2_some]
  intro P hP
  refine loop_up l.length (fun i vs H' => vs = [.int .i64 i] ∧ H = H' ∧ ∀ m ∈ l.take i, m < 281474976710656) ?_ ?_ (Nat.zero_le _) ⟨rfl, rfl, by simp⟩
  · rintro i vs H' hi ⟨rfl, rfl, hm⟩ k
    apply hP
    have hg : (l.map (Value.int .u64))[i]? = some (.int .u64 l[i]) := by simp [hi]
    simp only [bin_lss, Ok_some, Br_dec]
    refine ⟨fun _ => ?_, fun h => absurd (by omega) h⟩
    simp only [IA_slice]
    refine ⟨by omega, ?_⟩
    have e1 : 0 + (i : Int).toNat * 1 = i := by omega
    simp only [e1, Ld1_ptr, rd1_own hb, getN_eq, hg, Ok_some, CV_func, List.nil_append, List.append_nil]
    refine C_mono (c61 (hl _ (List.getElem_mem _))) ?_
    rintro _ _ ⟨rfl, rfl⟩
    simp only [Br_ndec, bin_add, Ok_some]
    refine ⟨fun h => hQ _ _ ⟨⟨_, rfl, ?_⟩, rfl⟩, fun h => ?_⟩
    · exact ⟨fun _ hall => h (hall _ (List.getElem_mem _)), fun _ => by omega⟩
    · rw [wrap_i64 (by omega)]
      refine k _ _ ⟨by simp, rfl, fun m hm' => ?_⟩
      rw [List.take_add_one, List.mem_append] at hm'
      rcases hm' with hm' | hm'
      · exact hm m hm'
      · rw [List.getElem?_eq_getElem hi] at hm'
        simp at hm'; subst hm'; exact h
  · rintro vs H' ⟨rfl, rfl, hm⟩
    apply hP
    rw [List.take_length] at hm
    simp only [bin_lss, Ok_some, Br_dec]
    exact ⟨fun h => absurd h (by omega), fun _ => hQ _ _ ⟨⟨_, rfl, ⟨fun h => absurd h (by omega), fun h => absurd hm h⟩⟩, rfl⟩⟩

/-- Are numbers all cards' addresses? -/
theorem c50 {l : List Int} (hl : ∀ m ∈ l, 0 ≤ m) (h9 : l.length < 1000) {b : Nat} (hb : H.get b = some (.cells (l.map (.int .u64)) 28)) :
    C (Z ext) 50 [.slice (some ⟨b, 0, none⟩) l.length l.length] H fun v H' => v = .bool (decide (∀ m ∈ l, m < 281474976710656)) ∧ H = H' := by
  refine C_all fun Q hQ => ?_
  apply w50_ok rfl
  simp only [w50]
  have h60 : C (Z ext) 60 [.slice (some ⟨b, 0, none⟩) l.length l.length, .func (.func 61) #[] #[]] H fun v H' => v = .bool (!decide (∀ m ∈ l, m < 281474976710656)) ∧ H = H' := by
    apply w60_ok rfl
    simp only [w60]
    refine C_mono (c70 hl h9 hb) ?_
    rintro _ _ ⟨⟨k, rfl, hk⟩, rfl⟩
    simp only [bin_geq, Ok_some]
    refine ⟨?_, trivial⟩
    rw [decide_eq_decide.2 hk, decide_not]
  refine C_mono h60 ?_
  rintro _ _ ⟨rfl, rfl⟩
  simp only [un_not, Ok_some, Bool.not_not]
  exact hQ _ _ ⟨rfl, rfl⟩

/-- The bytes of a frame. -/
def frameB (to fr kind : Int) (bs : List Int) : List Int := be 6 to ++ be 6 fr ++ be 2 kind ++ bs

theorem Own.fr {H0 : Heap} {v : Value} {bs : List Int} (h : Own H v 1 bs.length (B8 bs) 5) (hne : bs ≠ []) (ho : ∀ b, ob v = some b → H0.next ≤ b) : Fr H0 H v bs := by
  rcases h.2 with ⟨h0, -⟩ | ⟨b, rfl, hb, hg⟩
  · exact absurd (List.eq_nil_of_length_eq_zero h0) hne
  · exact ⟨b, rfl, ho b (by simp [ob]), hb, hg⟩

theorem catp3 (a b c : Nat × Int) : catp [a, b, c] = be a.1 a.2 ++ be b.1 b.2 ++ be c.1 c.2 := by simp [catp]

/-- A frame's bytes. -/
theorem c38 {to fr kind : Int} {bs : List Int} {v : Value} (h1 : 0 ≤ to ∧ to < 281474976710656) (h2 : 0 ≤ fr ∧ fr < 281474976710656) (h3 : 1536 ≤ kind ∧ kind < 65536) (hv : BAt ext H v bs) (hl : bs.length ≤ 1500) :
    C (Z ext) 38 [.agg ⟨[.int .u64 to, .int .u64 fr, .int .u16 kind, v]⟩] H fun r H' => ∃ f, r = .tuple #[f, .int .i64 0] ∧ Fr H H' f (frameB to fr kind bs) ∧ Ext H H' := by
  refine C_all fun Q hQ => ?_
  obtain ⟨p, c, rfl⟩ := hv.shape
  apply w38_ok rfl
  simp only [w38, Al_eq, cellsOf_agg, FA_ptr, Ld1_ptr, rd1_own (Heap.get_alloc_self _ _), getN_zero, getN_succ, Nat.zero_add, Ok_some, Ok2_some, bsl_107_2, one_int]
  generalize hH1 : H.alloc (.cells [.int .u64 to, .int .u64 fr, .int .u16 kind, .slice p bs.length c] 78) = H1
  have n1 : H1.next = H.next + 1 := by rw [← hH1]; simp
  have g1 : H1.get H.next = some (.cells [.int .u64 to, .int .u64 fr, .int .u16 kind, .slice p bs.length c] 78) := by rw [← hH1]; simp
  have E1 : Ext H H1 := by rw [← hH1]; exact .alloc _ _ _
  refine C_mono (c50 (l := [to, fr]) (by simp [h1.1, h2.1]) (by simp) (Heap.get_alloc_self _ _)) ?_
  rintro _ H2 ⟨rfl, rfl⟩
  have E2 : Ext H1 (H1.alloc (.cells ([to, fr].map (.int .u64)) 28)) := .alloc _ _ _
  have hg2 := E2.get' (b := H.next) (by omega)
  rw [g1] at hg2
  have hcard : (∀ m ∈ [to, fr], m < 281474976710656) := by simp [h1.2, h2.2]
  rw [decide_eq_true hcard]
  simp only [List.map_cons, List.map_nil] at E2 hg2 ⊢
  simp only [un_not, Ok_some, Bool.not_true, Br_false, rd1_own hg2, getN_zero, getN_succ, bin_lss, Br_dec]
  refine ⟨fun h => absurd h (by omega), fun _ => ?_⟩
  simp only [rd1_own hg2, getN_zero, getN_succ, Ok_some, len_29, Ok2_some, bin_gtr, Br_dec]
  refine ⟨fun h => absurd h (by omega), fun _ => ?_⟩
  simp only [rd1_own hg2, getN_zero, getN_succ, Ok_some, build_101_01, one_int, conv_76_28, Ok2_some, bsl_111_3]
  rw [wrap_u64 (by omega)]
  generalize hH2 : H1.alloc (.cells [.int .u64 to, .int .u64 fr] 28) = H2 at E2 hg2 ⊢
  have e3 : pairs [(6, to), (6, fr), (2, kind)] = [.int .u64 6, .int .u64 to, .int .u64 6, .int .u64 fr, .int .u64 2, .int .u64 kind] := rfl
  refine C_mono (c51 (ps := [(6, to), (6, fr), (2, kind)]) (by simp; omega) (by simp) (b := H2.next) (by rw [e3]; simp) (by simp)) ?_
  rintro r H4 ⟨o4, f4, E4⟩
  have E3 : Ext H2 (H2.alloc (.cells [.int .u64 6, .int .u64 to, .int .u64 6, .int .u64 fr, .int .u64 2, .int .u64 kind] 101)) := .alloc _ _ _
  have E24 := E3.trans E4
  have hlt2 : H.next < H2.next := by have := E2.le; omega
  have hg4 := E24.get' hlt2
  rw [hg2] at hg4
  simp only [rd1_own hg4, rd1_own hg2, getN_zero, getN_succ, Ok_some]
  have EH2 : Ext H H2 := E1.trans E2
  have EH4 : Ext H H4 := EH2.trans E24
  obtain ⟨v', H5, e5, o5, k5, hob⟩ := app29 (ext := ext) o4 (x := .slice p bs.length c) (xs := bs) ⟨_, _, rfl⟩ (hv.up EH4).cells (by simp [catp3]; omega)
  refine Ok2_of e5 ?_
  have hveq : veq 3 (Value.slice p bs.length c) (Value.slice p bs.length c) = true := by simp [veq]
  refine ⟨hveq, hveq, hQ _ _ ⟨v', rfl, ?_, EH4.then k5 fun b hb hs => ?_⟩⟩
  · refine Own.fr ?_ ?_ ?_
    · have hlen : (catp [(6, to), (6, fr), (2, kind)]).length + bs.length = (frameB to fr kind bs).length := by simp [catp3, frameB]; omega
      have hcat : catp [(6, to), (6, fr), (2, kind)] ++ bs = frameB to fr kind bs := by simp [catp3, frameB]
      rw [hlen, hcat] at o5
      exact o5
    · intro h
      have := congrArg List.length h
      simp [frameB] at this
    · intro b hb
      rcases hob with ⟨h1, -⟩ | ⟨h1, -⟩
      · have h5 := f4 b (by rw [← h1]; exact hb)
        have h6 := EH2.le
        rw [Heap.next_alloc] at h5
        omega
      · rw [h1] at hb; cases hb; exact EH4.le
  · have h5 := f4 b hs
    have h6 := EH2.le
    rw [Heap.next_alloc] at h5
    omega

/-- The bytes of a question, or of an answer. -/
def arpB (op fm fi tm ti : Int) : List Int := be 6 4429186564 ++ be 2 op ++ be 6 fm ++ be 4 fi ++ be 6 tm ++ be 4 ti

theorem arpB_len (op fm fi tm ti : Int) : (arpB op fm fi tm ti).length = 28 := by simp [arpB]
theorem catp6 (a b c d e f : Nat × Int) : catp [a, b, c, d, e, f] = be a.1 a.2 ++ be b.1 b.2 ++ be c.1 c.2 ++ be d.1 d.2 ++ be e.1 e.2 ++ be f.1 f.2 := by simp [catp]

/-- A question's bytes, or an answer's. -/
theorem c39 {o fm fi tm ti : Int} (h0 : 1 ≤ o ∧ o ≤ 2) (h1 : 0 ≤ fm ∧ fm < 281474976710656) (h2 : 0 ≤ fi ∧ fi < 4294967296) (h3 : 0 ≤ tm ∧ tm < 281474976710656) (h4 : 0 ≤ ti ∧ ti < 4294967296) :
    C (Z ext) 39 [.agg ⟨[.int .i64 o, .int .u64 fm, .int .u32 fi, .int .u64 tm, .int .u32 ti]⟩] H fun r H' => ∃ f, r = .tuple #[f, .int .i64 0] ∧ Fr H H' f (arpB o fm fi tm ti) ∧ Ext H H' := by
  refine C_all fun Q hQ => ?_
  apply w39_ok rfl
  simp only [w39, Al_eq, cellsOf_agg, FA_ptr, Ld1_ptr, rd1_own (Heap.get_alloc_self _ _), getN_zero, getN_succ, Nat.zero_add, Ok_some, bin_lss, Br_dec]
  refine ⟨fun h => absurd h (by omega), fun _ => ?_⟩
  simp only [rd1_own (Heap.get_alloc_self _ _), getN_zero, getN_succ, Ok_some, bin_gtr, Br_dec]
  refine ⟨fun h => absurd h (by omega), fun _ => ?_⟩
  simp only [rd1_own (Heap.get_alloc_self _ _), getN_zero, getN_succ, Ok_some, Ok2_some, bsl_107_2, one_int]
  generalize hH1 : H.alloc (.cells [.int .i64 o, .int .u64 fm, .int .u32 fi, .int .u64 tm, .int .u32 ti] 31) = H1
  have n1 : H1.next = H.next + 1 := by rw [← hH1]; simp
  have g1 : H1.get H.next = some (.cells [.int .i64 o, .int .u64 fm, .int .u32 fi, .int .u64 tm, .int .u32 ti] 31) := by rw [← hH1]; simp
  have E1 : Ext H H1 := by rw [← hH1]; exact .alloc _ _ _
  refine C_mono (c50 (l := [fm, tm]) (by simp [h1.1, h3.1]) (by simp) (Heap.get_alloc_self _ _)) ?_
  rintro _ H2 ⟨rfl, rfl⟩
  have E2 : Ext H1 (H1.alloc (.cells ([fm, tm].map (.int .u64)) 28)) := .alloc _ _ _
  have hg2 := E2.get' (b := H.next) (by omega)
  rw [g1] at hg2
  have hcard : (∀ m ∈ [fm, tm], m < 281474976710656) := by simp [h1.2, h3.2]
  rw [decide_eq_true hcard]
  simp only [List.map_cons, List.map_nil] at E2 hg2 ⊢
  simp only [un_not, Ok_some, Bool.not_true, Br_false, rd1_own hg2, getN_zero, getN_succ, build_101_01, one_int, conv_3_28, conv_22_28, Ok2_some, bsl_111_6]
  rw [wrap_u64 (n := o) (by omega), wrap_u64 (n := fi) (by omega), wrap_u64 (n := ti) (by omega)]
  generalize hH2 : H1.alloc (.cells [.int .u64 fm, .int .u64 tm] 28) = H2 at E2 hg2 ⊢
  have e3 : pairs [(6, 4429186564), (2, o), (6, fm), (4, fi), (6, tm), (4, ti)] = [.int .u64 6, .int .u64 4429186564, .int .u64 2, .int .u64 o, .int .u64 6, .int .u64 fm, .int .u64 4, .int .u64 fi, .int .u64 6, .int .u64 tm, .int .u64 4, .int .u64 ti] := rfl
  refine C_mono (c51 (ps := [(6, 4429186564), (2, o), (6, fm), (4, fi), (6, tm), (4, ti)]) (by simp; omega) (by simp) (b := H2.next) (by rw [e3]; simp) (by simp)) ?_
  rintro r H4 ⟨o4, f4, E4⟩
  have E24 : Ext H H4 := (E1.trans E2).trans ((Kp.alloc _ _ _).trans E4)
  refine hQ _ _ ⟨r, rfl, Own.fr (by rw [show catp [(6, 4429186564), (2, o), (6, fm), (4, fi), (6, tm), (4, ti)] = arpB o fm fi tm ti from catp6 (6, 4429186564) (2, o) (6, fm) (4, fi) (6, tm) (4, ti)] at o4; exact o4) (fun h => by have := congrArg List.length h; simp [arpB] at this) (fun b hb => ?_), E24⟩
  have h5 := f4 b hb
  have h6 := (E1.trans E2).le
  rw [Heap.next_alloc] at h5
  omega

/-- A cache's cells. -/
def cacheC (mac ip last : Int) (mb : Nat) (lost : Int) : List Value := [.int .u64 mac, .int .u32 ip, .int .i64 last, .map (some mb), .int .i64 lost]

theorem Fr.bat {H0 : Heap} {v : Value} {bs : List Int} (h : Fr H0 H v bs) (hb : Byt bs) : BAt ext H v bs := by
  obtain ⟨b, rfl, -, h2, h3⟩ := h
  exact ⟨⟨_, _, rfl⟩, by rw [cellsAt_own h3 (by simp), List.drop_zero, List.take_of_length_le (by simp)], hb, by intro c hc; simp [bk] at hc; omega⟩

theorem arpB_byt (op fm fi tm ti : Int) : Byt (arpB op fm fi tm ti) := ((((((be_byt _ _).append (be_byt _ _)).append (be_byt _ _)).append (be_byt _ _)).append (be_byt _ _)).append (be_byt _ _))
theorem frameB_byt (to fr kind : Int) {bs : List Int} (h : Byt bs) : Byt (frameB to fr kind bs) := ((((be_byt _ _).append (be_byt _ _)).append (be_byt _ _)).append h)

theorem Fr.up {H1 H0 : Heap} {v : Value} {bs : List Int} (h : Fr H0 H1 v bs) {H2 : Heap} {S : Nat → Prop} (hk : Kp S H1 H2) (hS : ∀ b, H0.next ≤ b → b < H1.next → ¬ S b) : Fr H0 H2 v bs := by
  obtain ⟨b, rfl, h1, h2, h3⟩ := h
  exact ⟨b, rfl, h1, Nat.lt_of_lt_of_le h2 hk.le, by rw [hk.get b h2 (hS b h1 h2), h3]⟩
theorem Fr.down {H1 H0 Hm : Heap} {v : Value} {bs : List Int} (h : Fr Hm H1 v bs) (hle : H0.next ≤ Hm.next) : Fr H0 H1 v bs := by
  obtain ⟨b, rfl, h1, h2, h3⟩ := h
  exact ⟨b, rfl, Nat.le_trans hle h1, h2, h3⟩

section
variable {c mb : Nat} {mac ip last lost : Int} (hc : H.get c = some (.cells (cacheC mac ip last mb lost) 64)) (hlt : c < H.next) (hm : 0 ≤ mac ∧ mac < 281474976710655) (hi : 0 ≤ ip ∧ ip < 4294967296)
include hc

/-- A body's frame. -/
theorem c24 (hm : 0 ≤ mac ∧ mac < 281474976710655) {to : Int} {v : Value} {bs : List Int} (ht : 0 ≤ to ∧ to < 281474976710656) (hv : BAt ext H v bs) (hl : bs.length ≤ 1500) :
    C (Z ext) 24 [.pointer (some ⟨c, 0, none⟩), .int .u64 to, v] H fun f H' => Fr H H' f (frameB to mac 2048 bs) ∧ Ext H H' := by
  refine C_all fun Q hQ => ?_
  obtain ⟨p, cc, rfl⟩ := hv.shape
  apply w24_ok rfl
  simp only [w24, nilCheck_ptr, Ok_some, FA_ptr, Ld1_ptr, rd1_own hc, cacheC, getN_zero, Nat.zero_add, build_78_0123, one_int, one_slice]
  refine C_mono (c38 ht ⟨hm.1, by omega⟩ (by omega) hv hl) ?_
  rintro _ H' ⟨f, rfl, h1, h2⟩
  simp only [extract_mk, getN_zero, getN_succ, Ok_some]
  exact hQ _ _ ⟨h1, h2⟩

/-- A frame of a question, or of an answer. -/
theorem c29 (hlt : c < H.next) (hm : 0 ≤ mac ∧ mac < 281474976710655) (hi : 0 ≤ ip ∧ ip < 4294967296) {o to m i : Int} (ho : 1 ≤ o ∧ o ≤ 2) (ht : 0 ≤ to ∧ to < 281474976710656) (hmm : 0 ≤ m ∧ m < 281474976710656) (hii : 0 ≤ i ∧ i < 4294967296) :
    C (Z ext) 29 [.pointer (some ⟨c, 0, none⟩), .int .i64 o, .int .u64 to, .int .u64 m, .int .u32 i] H fun f H' => Fr H H' f (frameB to mac 2054 (arpB o mac ip m i)) ∧ Ext H H' := by
  refine C_all fun Q hQ => ?_
  apply w29_ok rfl
  simp only [w29, nilCheck_ptr, Ok_some, FA_ptr, Ld1_ptr, rd1_own hc, cacheC, getN_zero, getN_succ, Nat.zero_add, build_31_01234, one_int]
  refine C_mono (c39 ho ⟨hm.1, by omega⟩ hi hmm hii) ?_
  rintro _ H1 ⟨f, rfl, f1, E1⟩
  have hc1 : H1.get c = _ := E1.get' hlt
  rw [hc] at hc1
  have hb1 := f1.bat (ext := ext) (arpB_byt _ _ _ _ _)
  obtain ⟨b, hfe, -⟩ := f1
  simp only [extract_mk, getN_zero, getN_succ, Ok_some, rd1_own hc1, cacheC, build_78_0123, one_int]
  rw [build_78_0123 _ _ _ _ (by simp) (by simp) (by simp) (by rw [hfe]; simp)]
  simp only [Ok_some]
  refine C_mono (c38 ht ⟨hm.1, by omega⟩ (by omega) hb1 (by rw [arpB_len]; omega)) ?_
  rintro _ H2 ⟨g, rfl, f2, E2⟩
  simp only [extract_mk, getN_zero, getN_succ, Ok_some]
  exact hQ _ _ ⟨f2.down E1.le, E1.trans E2⟩

theorem c26 (hlt : c < H.next) (hm : 0 ≤ mac ∧ mac < 281474976710655) (hi : 0 ≤ ip ∧ ip < 4294967296) {i : Int} (hii : 0 ≤ i ∧ i < 4294967296) :
    C (Z ext) 26 [.pointer (some ⟨c, 0, none⟩), .int .u32 i] H fun f H' => Fr H H' f (frameB 281474976710655 mac 2054 (arpB 1 mac ip 0 i)) ∧ Ext H H' := by
  apply w26_ok rfl
  simp only [w26]
  exact c29 hc hlt hm hi (by omega) (by omega) (by omega) hii
end

end Ev
end Go.Proofs.Ytglkgmomnbdkoaa
