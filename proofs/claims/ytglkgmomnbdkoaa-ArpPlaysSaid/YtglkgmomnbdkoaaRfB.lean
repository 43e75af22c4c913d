/- RfB: Ref9 Ref10 Ref11 Ref12 Ref13 Ref14 in one text. -/
import Derived.Test.YtglkgmomnbdkoaaRfA
import Derived.Test.YtglkgmomnbdkoaaCh6
import Derived.Test.YtglkgmomnbdkoaaBnd1
import Derived.Test.YtglkgmomnbdkoaaCnt1
import Derived.Test.YtglkgmomnbdkoaaCnt3
import Derived.Test.YtglkgmomnbdkoaaBnd2
/- The document's cache: Table, Fork; are frames the same, and tables? -/
namespace Go.Proofs.Ytglkgmomnbdkoaa
namespace Ev
variable {ext : Nat → Nat → Option Value} {H : Heap} {fp : Nat → Prop} {c : Nat} {R : Ca} {lv : Value} {es : List ((Int × En) × Value)}

theorem c22 (h : RA ext H fp c R lv es) (hl : R.all.length ≤ 1000) (hw : ∀ a ∈ R.all, a.2.wait.length ≤ 1000) :
    C (Z ext) 22 [.pointer (some ⟨c, 0, none⟩)] H fun r H' => Own H' r 4 R.all.length (tableC R.all) 42 ∧ (∀ b, ob r = some b → H.next ≤ b) ∧ Ext H H' := by
  refine C_all fun Q hQ => ?_
  apply w22_ok rfl
  have hlen := h.len
  obtain ⟨lp, lc, hlv⟩ := h.own.len
  simp only [w22, eql_45, Option.isNone_some, Ok_some, Br_false, bsl_39_0, Ok2_some]
  have E1 : Ext H (H.alloc (.cells [] 42)) := .alloc _ _ _
  have n1 : (H.alloc (.cells [] 42)).next = H.next + 1 := by simp
  intro P hP
  refine loop_up R.all.length (fun i vs H' => ∃ x, vs = [x, .int .i64 i] ∧ Own H' x 4 i (tableC (R.all.take i)) 42 ∧ (∀ b, ob x = some b → H.next + 1 ≤ b) ∧ Ext (H.alloc (.cells [] 42)) H') ?_ ?_ (Nat.zero_le _) ⟨_, rfl, .nil _ _ _ _, by simp [ob, unk], .refl _ _⟩
  · rintro i _ H2 hi ⟨x, rfl, ox, fx, E2⟩ k
    refine hP _ _ _ ?_
    have h2 := (h.kp E1 (fun _ _ => id)).kp E2 fun _ _ => id
    have ha : R.all[i]? = some R.all[i] := List.getElem?_eq_getElem hi
    generalize R.all[i] = a at ha
    obtain ⟨wv, hx, hwv⟩ := h2.get ha
    obtain ⟨bl, hb, -, hbg⟩ := h2.lv_ptr hx
    obtain ⟨wvs, pw, cw, rfl, -, -⟩ := hwv.ex
    have hii : (0 : Int) ≤ i ∧ (i : Int) < es.length := by omega
    have e0 : (i : Int).toNat * 6 = i * 6 + 0 := by omega
    have g0 := getN_ents hx (show 0 < 6 by omega)
    simp only [nilCheck_ptr, Ok_some, FA_ptr, Ld1_ptr, rd1_own h2.cell, getN_zero, getN_succ, Nat.zero_add, hb, len_57, Ok2_some, bin_lss, Br_dec, IA_slice, e0, Nat.add_zero, Nat.add_assoc, rd1_own hbg,
      getN_ents hx (show 2 < 6 by omega), getN_ents hx (show 1 < 6 by omega), getN_ents hx (show 5 < 6 by omega), entC, List.getElem?_cons_zero, List.getElem?_cons_succ]
    refine ⟨fun _ => ⟨hii, ?_⟩, fun h => absurd hii.2 h⟩
    rw [show getN (entsC es) (i * 6) = some (.int .u32 a.1) from g0]
    simp only [Ok_some, len_34, Ok2_some, build_42_0123, one_int, one_bool, bsl_39_1]
    refine ⟨hii, hii, hii, ?_⟩
    have E4 : Ext H2 (H2.alloc (.cells [.int .u32 a.1, .int .u64 a.2.mac, .bool a.2.known, .int .i64 a.2.wait.length] 42)) := .alloc _ _ _
    obtain ⟨v5, H5, e5, o5, k5, hob⟩ := app39 (ext := ext) (ox.kp E4 (fun _ _ => id)) (xs := nbC a.1 a.2) (x := .slice (some ⟨H2.next, 0, none⟩) 1 1) (nx := 1) ⟨_, _, rfl⟩
      (by rw [cellsAt_own (Heap.get_alloc_self _ _) (by simp)]; rfl) (by simp [nbC]) (by simp [nbC]) (by omega)
    rw [e5, Ok2_some]
    simp only [bin_add, Ok_some]
    rw [wrap_i64 (by omega)]
    have hle2 := E2.le
    refine k _ _ ⟨v5, by simp, ?_, fun b hb => ?_, ?_⟩
    · rw [List.take_add_one, ha]
      simpa [tableC, List.flatMap_append] using o5
    · rcases hob with ⟨a1, -⟩ | ⟨a1, -⟩
      · exact fx b (by rw [← a1]; exact hb)
      · rw [a1] at hb; cases hb; simp; omega
    · exact (E2.trans E4).then k5 fun b hb hs => by have := fx b hs; omega
  · rintro _ H2 ⟨x, rfl, ox, fx, E2⟩
    refine hP _ _ _ ?_
    have h2 := (h.kp E1 (fun _ _ => id)).kp E2 fun _ _ => id
    simp only [nilCheck_ptr, Ok_some, FA_ptr, Ld1_ptr, rd1_own h2.cell, getN_zero, getN_succ, Nat.zero_add, hlv, len_57, Ok2_some, bin_lss, Br_dec]
    refine ⟨fun h => absurd h (by omega), fun _ => hQ _ _ ⟨?_, fun b hb => by have := fx b hb; omega, E1.trans E2⟩⟩
    rw [List.take_length] at ox
    exact ox

/-! tables -/
theorem neq_nb (a : Int × En) : bin (Z ext) .neq 42 (.agg ⟨nbC a.1 a.2⟩) (.agg ⟨nbC a.1 a.2⟩) = some (.bool false) := by
  simp [bin, eqV, eqV.eqFs, tt_42, Tab.i42, tt_22, Tab.i22, tt_28, Tab.i28, tt_4, Tab.i4, tt_3, Tab.i3, partOf, nbC, getN_eq]

theorem c21 {a b : Value} {L : List (Int × En)} (ha : Own H a 4 L.length (tableC L) 42) (hb : Own H b 4 L.length (tableC L) 42) (hl : L.length ≤ 1000) : C (Z ext) 21 [a, b] H fun r H' => r = .bool true ∧ H = H' := by
  refine C_all fun Q hQ => ?_
  apply w21_ok rfl
  obtain ⟨pa, ca, ea⟩ := ha.len
  obtain ⟨pb, cb, eb⟩ := hb.len
  simp only [w21, ea, eb, len_39, Ok2_some, bin_neq, Ok_some, decide_true, Bool.not_true, Br_false]
  intro P hP
  refine loop_up L.length (fun i vs H' => vs = [.int .i64 i] ∧ H = H') ?_ ?_ (Nat.zero_le _) ⟨rfl, rfl⟩
  · rintro i _ _ hi ⟨rfl, rfl⟩ k
    refine hP _ _ ?_
    have hx : L[i]? = some L[i] := List.getElem?_eq_getElem hi
    generalize L[i] = x at hx
    rcases ha.2 with ⟨h0, -⟩ | ⟨ba, h1, -, ga⟩
    · omega
    rcases hb.2 with ⟨h0, -⟩ | ⟨bb, h2, -, gb⟩
    · omega
    rw [ea] at h1; rw [eb] at h2
    cases h1; cases h2
    have e1 : (i : Int).toNat * 4 = i * 4 := by omega
    have hcut : cutN (i * 4) 4 (tableC L) = some (nbC x.1 x.2) := by
      rw [cutN_of (by rw [tableC_len]; omega)]
      congr 1
      refine List.ext_getElem? fun j => ?_
      by_cases hj : j < 4
      · rw [List.getElem?_take_of_lt hj, List.getElem?_drop, tableC_get hx hj]
      · rw [List.getElem?_eq_none (by simp; omega), List.getElem?_eq_none (by simp [nbC]; omega)]
    simp only [len_39, Ok2_some, bin_lss, Ok_some, Br_dec, IA_slice, Nat.zero_add, e1, LdN_ptr, rdN_own ga, rdN_own gb, hcut]
    refine ⟨fun _ => ⟨by omega, by omega, ?_⟩, fun h => absurd (by omega) h⟩
    rw [neq_nb]
    simp only [Ok_some, Br_false, bin_add]
    rw [wrap_i64 (by omega)]
    exact k _ _ ⟨by simp, rfl⟩
  · rintro _ _ ⟨rfl, rfl⟩
    refine hP _ _ ?_
    simp only [len_39, Ok2_some, bin_lss, Ok_some, Br_dec]
    exact ⟨fun h => absurd h (by omega), fun _ => hQ _ _ ⟨rfl, rfl⟩⟩

/-! frames -/
theorem FrL.get' {H0 : Heap} {fp : Nat → Prop} {o : Option Nat} : ∀ {vs : List Value} {fs : List (List Int)}, FrL H0 H fp o vs fs → ∀ {i : Nat} {f : List Int}, fs[i]? = some f → ∃ v, vs[i]? = some v ∧ Fr H0 H v f
  | [], [], _, i, f, hf => by simp at hf
  | v :: vs, g :: fs, h, 0, f, hf => by simp at hf; subst hf; exact ⟨v, rfl, h.1.1⟩
  | v :: vs, g :: fs, h, i + 1, f, hf => by simpa using FrL.get' h.2 (i := i) (by simpa using hf)
  | [], _ :: _, h, _, _, _ => h.elim
  | _ :: _, [], h, _, _, _ => h.elim

theorem FV.get {v : Value} {fs : List (List Int)} (h : FV ext H v fs) {i : Nat} {f : List Int} (hf : fs[i]? = some f) : ∃ pb po ps cv w, v = .slice (some ⟨pb, po, ps⟩) fs.length cv ∧ rd1 (Z ext) H ⟨pb, po + i, ps⟩ = some (.slice (some ⟨w, 0, none⟩) f.length (unk + 1)) ∧ H.get w = some (.cells (B8 f) 5) := by
  obtain ⟨H0, vs, p, cv, rfl, hc, hL⟩ := h
  have hi := (List.getElem?_eq_some_iff.1 hf).1
  obtain ⟨u, hu, w, rfl, -, -, hw⟩ := FrL.get' hL hf
  cases p with
  | none => have := (cellsAt_nil hc).1; omega
  | some a =>
    obtain ⟨pb, po, ps⟩ := a
    refine ⟨pb, po, ps, cv, w, rfl, ?_, hw⟩
    have := rd1_cellsAt hc hi
    rw [hu] at this
    exact this

theorem conv29 {w n cc : Nat} {f : List Int} (hw : H.get w = some (.cells (B8 f) 5)) (hn : n = f.length) : conv (Z ext) H 29 9 (.slice (some ⟨w, 0, none⟩) n cc) = some (.string (str8 f), H) :=
  conv_bs tt_29 tt_9 rfl rfl tt_5 rfl (by rw [hn, cellsAt_own hw (by simp), List.drop_zero, List.take_of_length_le (by simp)])

theorem c37 {a b : Value} {fs : List (List Int)} (ha : FV ext H a fs) (hb : FV ext H b fs) (hl : fs.length ≤ 1000) : C (Z ext) 37 [a, b] H fun r H' => r = .bool true ∧ H = H' := by
  refine C_all fun Q hQ => ?_
  apply w37_ok rfl
  have ha' := ha
  have hb' := hb
  obtain ⟨_, _, pa, ca, ea, -, -⟩ := ha'
  obtain ⟨_, _, pb, cb, eb, -, -⟩ := hb'
  simp only [w37, ea, eb, len_34, Ok2_some, bin_neq, Ok_some, decide_true, Bool.not_true, Br_false]
  intro P hP
  refine loop_up fs.length (fun i vs H' => vs = [.int .i64 i] ∧ H = H') ?_ ?_ (Nat.zero_le _) ⟨rfl, rfl⟩
  · rintro i _ _ hi ⟨rfl, rfl⟩ k
    refine hP _ _ ?_
    have hx : fs[i]? = some fs[i] := List.getElem?_eq_getElem hi
    generalize fs[i] = f at hx
    obtain ⟨a1, a2, a3, a4, aw, h1, ra, ga⟩ := ha.get hx
    obtain ⟨b1, b2, b3, b4, bw, h2, rb, gb⟩ := hb.get hx
    rw [ea] at h1; rw [eb] at h2
    cases h1; cases h2
    have e1 : ∀ o : Nat, o + (i : Int).toNat * 1 = o + i := fun o => by omega
    simp only [len_34, Ok2_some, bin_lss, Ok_some, Br_dec, IA_slice, e1, Ld1_ptr, ra, rb, conv29 ga rfl, conv29 gb rfl]
    refine ⟨fun _ => ⟨by omega, by omega, ?_⟩, fun h => absurd (by omega) h⟩
    have hne : bin (Z ext) .neq 9 (.string (str8 f)) (.string (str8 f)) = some (.bool false) := by simp [bin, strOp]
    rw [hne]
    simp only [Ok_some, Br_false, bin_add]
    rw [wrap_i64 (by omega)]
    exact k _ _ ⟨by simp, rfl⟩
  · rintro _ _ ⟨rfl, rfl⟩
    refine hP _ _ ?_
    simp only [len_34, Ok2_some, bin_lss, Ok_some, Br_dec]
    exact ⟨fun h => absurd h (by omega), fun _ => hQ _ _ ⟨rfl, rfl⟩⟩

/-! Fork -/
theorem c19 (h : RA ext H fp c R lv es) (hl : R.all.length ≤ 1000) :
    C (Z ext) 19 [.pointer (some ⟨c, 0, none⟩)] H fun r H' => ∃ c' lv' es', r = .pointer (some ⟨c', 0, none⟩) ∧ RA ext H' (fun b => (fp b ∧ b ≠ c) ∨ (H.next ≤ b ∧ b < H'.next)) c' R lv' es' ∧ Ext H H' ∧ H.next ≤ c' := by
  refine C_all fun Q hQ => ?_
  apply w19_ok rfl
  have hlen := h.len
  have hlo := h.own.len
  obtain ⟨lp, lc, hlv⟩ := hlo
  simp only [w19, eql_45, Option.isNone_some, Ok_some, Br_false, nilCheck_ptr, LdN_ptr, rdN_own h.cell]
  rw [show cutN 0 5 [Value.int .u64 R.mac, .int .u32 R.ip, .int .i64 R.last, lv, .int .i64 R.lost] = some [Value.int .u64 R.mac, .int .u32 R.ip, .int .i64 R.last, lv, .int .i64 R.lost] from cutN_all [Value.int .u64 R.mac, .int .u32 R.ip, .int .i64 R.last, lv, .int .i64 R.lost]]
  rw [Ok_some, Al_eq]
  refine new_st rfl rfl (by rw [hlv]; simp) ?_
  intro H1 n1 g1 E1
  simp only [cellsOf_agg] at g1
  have E2 : Ext H1 (H1.alloc (.cells [] 86)) := .alloc _ _ _
  have g2 : (H1.alloc (.cells [] 86)).get H.next = _ := (E2.get' (by omega)).trans g1
  have h2 := (h.kp E1 fun _ _ => id).kp E2 fun _ _ => id
  have hc := h.clt
  have hone := entsC_one fun x hx => (h.wt x hx).one
  simp only [bsl_57_0, Ok2_some, nilCheck_ptr, Ok_some, FA_ptr, Ld1_ptr, rd1_own h2.cell, getN_zero, getN_succ, Nat.zero_add]
  obtain ⟨v3, H3, e3, o3, k3, hob⟩ := app57 (ext := ext) (Own.nil (H1.alloc (.cells [] 86)) (some ⟨H1.next, 0, none⟩) 6 86) (nx := es.length) ⟨_, _, hlv⟩ (h2.own.cells (X := Z ext)) hone (entsC_len es) (by omega)
  rw [e3, Ok2_some]
  have E13 : Ext H1 H3 := E2.then k3 fun b hb hs => by simp [ob, unk] at hs
  have g3 : H3.get H.next = _ := (E13.get' (by omega)).trans g1
  have hle := E13.le
  refine st_one' g3 (by rcases o3.len with ⟨_, _, rfl⟩; simp) (by simp) fun H4 n4 g4 k4 => ?_
  have E4 : Ext H H4 := (E1.trans E13).then k4 fun b hb he => by omega
  rw [List.nil_append, Nat.zero_add] at o3
  have hob' : ∀ b, ob v3 = some b → H1.next ≤ b := by
    intro b hb
    rcases hob with ⟨q, -⟩ | ⟨q, -⟩
    · rw [q] at hb; simp [ob, unk] at hb
    · rw [q] at hb; simp at hb; omega
  refine hQ _ _ ⟨H.next, v3, es, rfl, ⟨g4, o3.kp k4 fun b hb he => by have := hob' b hb; omega, fun b hb => ⟨.inr ⟨by have := hob' b hb; omega, by have := o3.ob_lt hb; omega⟩, by have := hob' b hb; omega⟩, h.all, fun x hx => (h.wt x hx).kp E4 (fun _ _ => id) fun b hb => ?_, by omega, .inr ⟨Nat.le_refl _, by omega⟩, fun b hb => ?_⟩, E4, Nat.le_refl _⟩
  · exact ⟨.inl hb, by have := h.lt b hb.1; omega⟩
  · rcases hb with hb | hb
    · have := h.lt b hb.1; omega
    · exact hb.2

end Ev
end Go.Proofs.Ytglkgmomnbdkoaa

/- The document's cache and the program's: the same answers (no program in sight). -/
namespace Go.Proofs.Ytglkgmomnbdkoaa
namespace Ev

/-- Addresses rise. -/
def srt (L : List (Int × En)) : Prop := (L.map (·.1)).Pairwise (· < ·)

theorem srt.nodup {L : List (Int × En)} (h : srt L) : (L.map (·.1)).Nodup := List.Pairwise.imp (fun hab => by omega) h

theorem fnd_isSome {k : Int} {l : List (Int × En)} : (fnd k l).isSome ↔ k ∈ l.map (·.1) := fnd_some

theorem self_map : ∀ {L : List (Int × En)}, (L.map (·.1)).Nodup → L = (L.map (·.1)).map fun k => (k, (fnd k L).getD en0)
  | [], _ => rfl
  | a :: L, h => by
    have h' := List.nodup_cons.1 h
    have ih := self_map h'.2
    simp only [List.map_cons, fnd, if_pos, Option.getD_some]
    refine List.cons_eq_cons.2 ⟨rfl, ?_⟩
    conv => lhs; rw [ih]
    refine List.map_congr_left fun k hk => ?_
    have : k ≠ a.1 := fun e => by subst e; exact h'.1 hk
    rw [if_neg this]

/-- A list that rises is known by what is found in it. -/
theorem table_unique {L M : List (Int × En)} (hL : srt L) (hM : (M.map (·.1)).Nodup) (h : ∀ k, fnd k L = fnd k M) : L = (sortL (M.map (·.1))).map fun k => (k, (fnd k M).getD en0) := by
  have hp : (L.map (·.1)).Perm (M.map (·.1)) := by
    refine (List.perm_ext_iff_of_nodup hL.nodup hM).2 fun k => ?_
    rw [← fnd_isSome, ← fnd_isSome, h]
  have hs : L.map (·.1) = sortL (M.map (·.1)) := sortL_of_perm hp (List.Pairwise.imp (fun hab => by omega) hL)
  conv => lhs; rw [self_map hL.nodup]
  rw [hs]
  exact List.map_congr_left fun k _ => by rw [h]

theorem table_srt {S : Ca} (h : CaOk S) : srt (tableP S) := by
  unfold srt
  have e : (tableP S).map (·.1) = sortL (S.all.map (·.1)) := by simp [tableP, Function.comp_def]
  rw [e]
  have h1 := sortL_sorted (S.all.map (·.1))
  have h2 := nodup_sortL h.keys
  exact (h1.and h2).imp fun hab => by omega

theorem fnd_map {l : List (Int × En)} : ∀ {ks : List Int} {k : Int}, fnd k (ks.map fun k => (k, (fnd k l).getD en0)) = if k ∈ ks then some ((fnd k l).getD en0) else none
  | [], k => by simp [fnd]
  | j :: ks, k => by
    simp only [List.map_cons, fnd, fnd_map (ks := ks)]
    by_cases hk : k = j
    · subst hk; simp
    · simp [hk]

theorem fnd_table {S : Ca} (k : Int) : fnd k (tableP S) = fnd k S.all := by
  unfold tableP
  rw [fnd_map]
  cases hf : fnd k S.all with
  | none =>
    rw [if_neg]
    rw [(sortL_perm _).mem_iff]
    exact fnd_none.1 hf
  | some e =>
    rw [if_pos]
    · rfl
    · rw [(sortL_perm _).mem_iff]
      exact fnd_isSome.1 (by rw [hf]; rfl)

/-- What the document's cache holds. -/
def refS (S : Ca) : Ca := { S with all := tableP S }

theorem refS_ok {S : Ca} (h : CaOk S) : CaOk (refS S) := by
  have hp := tableP_perm h
  refine ⟨h.mac, h.ip, h.last, h.lost, ?_, (table_srt h).nodup, fun a ha => h.rng a (hp.mem_iff.1 ha), fun a ha => h.ens a (hp.mem_iff.1 ha)⟩
  show (tableP S).length ≤ 8
  rw [tableP_len]; exact h.len

theorem refS_of {S R : Ca} (hS : CaOk S) (hm : R.mac = S.mac) (hi : R.ip = S.ip) (hl : R.last = S.last) (ho : R.lost = S.lost) (hs : srt R.all) (hf : ∀ k, fnd k R.all = fnd k S.all) : R = refS S := by
  have := table_unique hs hS.keys hf
  cases R
  simp only at *
  subst hm hi hl ho
  unfold refS tableP
  rw [this]

theorem bgn_ref (S : Ca) (now : Int) : bgn (refS S) now = ((bgn S now).1, refS (bgn S now).2) := by
  unfold bgn refS
  simp only
  split
  · rfl
  · split
    · rfl
    · rfl

/-! places -/
theorem plc_cons_lt {k : Int} {a : Int × En} {L : List (Int × En)} (h : a.1 < k) : plc k (a :: L) = plc k L + 1 := by simp [plc, h]
theorem plc_cons_ge {k : Int} {a : Int × En} {L : List (Int × En)} (h : ¬ a.1 < k) : plc k (a :: L) = 0 := by simp [plc, h]

theorem srt.tail {a : Int × En} {L : List (Int × En)} (h : srt (a :: L)) : srt L ∧ ∀ b ∈ L, a.1 < b.1 := by
  have := List.pairwise_cons.1 h
  exact ⟨this.2, fun b hb => this.1 _ (List.mem_map_of_mem hb)⟩

theorem srt.cons {a : Int × En} {L : List (Int × En)} (h : srt L) (ha : ∀ b ∈ L, a.1 < b.1) : srt (a :: L) := by
  refine List.pairwise_cons.2 ⟨fun k hk => ?_, h⟩
  obtain ⟨b, hb, rfl⟩ := List.mem_map.1 hk
  exact ha b hb

theorem fnd_gt {k : Int} {L : List (Int × En)} (h : ∀ b ∈ L, k < b.1) : fnd k L = none := by
  rw [fnd_none]
  intro hk
  obtain ⟨b, hb, e⟩ := List.mem_map.1 hk
  have := h b hb
  omega

/-- Is it there? -/
theorem there {k : Int} : ∀ {L : List (Int × En)}, srt L → (if thr k L = true then L[plc k L]? else none) = (fnd k L).map fun e => (k, e)
  | [], _ => by simp [thr, fnd, plc]
  | a :: L, h => by
    obtain ⟨h1, h2⟩ := h.tail
    by_cases ha : a.1 < k
    · have e : thr k (a :: L) = thr k L := by unfold thr; rw [plc_cons_lt ha]; simp
      rw [e, plc_cons_lt ha, List.getElem?_cons_succ, there h1]
      simp [fnd, show ¬ k = a.1 by omega]
    · by_cases hk : k = a.1
      · have e : thr k (a :: L) = true := by unfold thr; rw [plc_cons_ge ha]; simp [hk]
        rw [e, plc_cons_ge ha]
        simp [fnd, hk]
      · have e : thr k (a :: L) = false := by
          unfold thr; rw [plc_cons_ge ha]; simp; omega
        have hn := fnd_gt (k := k) (L := L) fun b hb => by have := h2 b hb; omega
        simp [e, fnd, hk, hn]

theorem thr_eq {k : Int} {L : List (Int × En)} (h : srt L) : thr k L = (fnd k L).isSome := by
  have := there (k := k) h
  cases hf : fnd k L with
  | none =>
    rw [hf] at this
    cases ht : thr k L with
    | false => rfl
    | true =>
      have h2 := thr_lt ht
      rw [if_pos ht, List.getElem?_eq_getElem h2] at this
      simp at this
  | some e =>
    rw [hf] at this
    cases ht : thr k L with
    | false => rw [if_neg (by simp [ht])] at this; simp at this
    | true => rfl

theorem ins_cons_lt {a b : Int × En} {L : List (Int × En)} (h : b.1 < a.1) : ins a (b :: L) = b :: ins a L := by
  have e : thr a.1 (b :: L) = thr a.1 L := by unfold thr; rw [plc_cons_lt h]; simp
  unfold ins
  rw [e, plc_cons_lt h]
  split <;> simp

theorem ins_cons_eq {a b : Int × En} {L : List (Int × En)} (h : b.1 = a.1) : ins a (b :: L) = a :: L := by
  have hn : ¬ b.1 < a.1 := by omega
  have e : thr a.1 (b :: L) = true := by unfold thr; rw [plc_cons_ge hn]; simp [h]
  unfold ins
  rw [e, plc_cons_ge hn]
  simp

theorem ins_cons_gt {a b : Int × En} {L : List (Int × En)} (h : a.1 < b.1) : ins a (b :: L) = a :: b :: L := by
  have hn : ¬ b.1 < a.1 := by omega
  have e : thr a.1 (b :: L) = false := by unfold thr; rw [plc_cons_ge hn]; simp; omega
  unfold ins
  rw [e, plc_cons_ge hn]
  simp

theorem ins_nil (a : Int × En) : ins a [] = [a] := by simp [ins, plc, thr]

theorem mem_ins {a b : Int × En} : ∀ {L : List (Int × En)}, b ∈ ins a L → b = a ∨ b ∈ L
  | [], h => by rw [ins_nil] at h; simpa using h
  | x :: L, h => by
    rcases Int.lt_trichotomy x.1 a.1 with hx | hx | hx
    · rw [ins_cons_lt hx] at h
      rcases List.mem_cons.1 h with h | h
      · exact .inr (by simp [h])
      · rcases mem_ins h with h | h
        · exact .inl h
        · exact .inr (List.mem_cons_of_mem _ h)
    · rw [ins_cons_eq hx] at h
      rcases List.mem_cons.1 h with h | h
      · exact .inl h
      · exact .inr (List.mem_cons_of_mem _ h)
    · rw [ins_cons_gt hx] at h
      rcases List.mem_cons.1 h with h | h
      · exact .inl h
      · exact .inr h

theorem ins_srt {a : Int × En} : ∀ {L : List (Int × En)}, srt L → srt (ins a L)
  | [], _ => by rw [ins_nil]; simp [srt]
  | x :: L, h => by
    obtain ⟨h1, h2⟩ := h.tail
    rcases Int.lt_trichotomy x.1 a.1 with hx | hx | hx
    · rw [ins_cons_lt hx]
      refine (ins_srt h1).cons fun b hb => ?_
      rcases mem_ins hb with rfl | hb
      · exact hx
      · exact h2 b hb
    · rw [ins_cons_eq hx]
      exact h1.cons fun b hb => by have := h2 b hb; omega
    · rw [ins_cons_gt hx]
      refine h.cons fun b hb => ?_
      rcases List.mem_cons.1 hb with rfl | hb
      · exact hx
      · have := h2 b hb; omega

theorem fnd_ins {a : Int × En} {j : Int} : ∀ {L : List (Int × En)}, srt L → fnd j (ins a L) = if j = a.1 then some a.2 else fnd j L
  | [], _ => by rw [ins_nil]; simp [fnd]
  | x :: L, h => by
    obtain ⟨h1, h2⟩ := h.tail
    rcases Int.lt_trichotomy x.1 a.1 with hx | hx | hx
    · rw [ins_cons_lt hx]
      simp only [fnd, fnd_ins h1]
      by_cases hj : j = x.1
      · simp [hj, show ¬ x.1 = a.1 by omega]
      · simp [hj]
    · rw [ins_cons_eq hx]
      simp only [fnd]
      by_cases hj : j = a.1
      · simp [hj]
      · simp [hj, show ¬ j = x.1 by omega]
    · rw [ins_cons_gt hx]
      simp only [fnd]

theorem ins_ref {S : Ca} (h : CaOk S) {k : Int} {e : En} (hp : CaOk { S with all := put k e S.all }) : { refS S with all := ins (k, e) (tableP S) } = refS { S with all := put k e S.all } := by
  refine refS_of hp rfl rfl rfl rfl (ins_srt (table_srt h)) fun j => ?_
  show fnd j (ins (k, e) (tableP S)) = fnd j (put k e S.all)
  rw [fnd_ins (table_srt h), fnd_put, fnd_table]

/-! taking one away -/
theorem fnd_erase {j : Int} : ∀ {L : List (Int × En)} {i : Nat} {a : Int × En}, srt L → L[i]? = some a → fnd j (L.eraseIdx i) = if j = a.1 then none else fnd j L
  | [], i, a, _, h => by simp at h
  | x :: L, 0, a, hs, h => by
    simp at h; subst h
    obtain ⟨h1, h2⟩ := hs.tail
    simp only [List.eraseIdx_zero, List.tail_cons, fnd]
    by_cases hj : j = x.1
    · rw [if_pos hj, hj]; exact fnd_gt h2
    · rw [if_neg hj, if_neg hj]
  | x :: L, i + 1, a, hs, h => by
    obtain ⟨h1, h2⟩ := hs.tail
    have ha : L[i]? = some a := by simpa using h
    simp only [List.eraseIdx_cons_succ, fnd, fnd_erase h1 ha]
    have hlt := h2 a (List.mem_of_getElem? ha)
    by_cases hj : j = x.1
    · rw [if_pos hj, if_pos hj, if_neg (by omega)]
    · rw [if_neg hj, if_neg hj]

theorem erase_srt {L : List (Int × En)} (h : srt L) (i : Nat) : srt (L.eraseIdx i) := List.Pairwise.sublist ((List.eraseIdx_sublist L i).map _) h

theorem erase_ref {S : Ca} (h : CaOk S) {i : Nat} {a : Int × En} (ha : (tableP S)[i]? = some a) : { refS S with all := (tableP S).eraseIdx i } = refS { S with all := del a.1 S.all } := by
  refine refS_of (h.del a.1) rfl rfl rfl rfl (erase_srt (table_srt h) i) fun j => ?_
  show fnd j ((tableP S).eraseIdx i) = fnd j (del a.1 S.all)
  rw [fnd_erase (table_srt h) ha]
  by_cases hj : j = a.1
  · subst hj
    rw [if_pos rfl]
    exact (fnd_del_self h.keys).symm
  · rw [if_neg hj, fnd_del hj, fnd_table]

/-! room -/
theorem table_get {S : Ca} (h : CaOk S) {i : Nat} {a : Int × En} (ha : (tableP S)[i]? = some a) : fnd a.1 S.all = some a.2 := by
  rw [← fnd_table]
  exact fnd_of_mem (table_srt h).nodup (List.mem_of_getElem? ha)

/-- The two ways to look for the oldest go side by side. -/
def Same (L : List (Int × En)) (s : Int) (t : Int × Bool) : Prop := (s < 0 ∧ t.2 = false) ∨ (0 ≤ s ∧ t.2 = true ∧ ∃ a, L[s.toNat]? = some a ∧ a.1 = t.1)

theorem old_same {S : Ca} (h : CaOk S) : ∀ i, i ≤ (tableP S).length → Same (tableP S) ((List.range i).foldl (rst (tableP S)) (-1)) (((sortL (S.all.map (·.1))).take i).foldl (oldF S.all) (0, false))
  | 0, _ => .inl ⟨by simp, by simp⟩
  | i + 1, hi => by
    have ih := old_same h i (by omega)
    have hks : (tableP S).map (·.1) = sortL (S.all.map (·.1)) := by simp [tableP, Function.comp_def]
    have ha : (tableP S)[i]? = some (tableP S)[i] := List.getElem?_eq_getElem (by omega)
    generalize (tableP S)[i] = a at ha
    have hk : (sortL (S.all.map (·.1)))[i]? = some a.1 := by rw [← hks, List.getElem?_map, ha]; rfl
    rw [List.range_succ, List.foldl_append, List.take_add_one, hk, List.foldl_append]
    generalize (List.range i).foldl (rst (tableP S)) (-1) = s at ih
    generalize ((sortL (S.all.map (·.1))).take i).foldl (oldF S.all) (0, false) = t at ih
    have hf := table_get h ha
    simp only [List.foldl_cons, List.foldl_nil, Option.toList]
    have hr : rst (tableP S) s i = if a.2.known = true ∧ (s < 0 ∨ a.2.at_ < atOf (tableP S) s) then (i : Int) else s := by unfold rst; rw [ha]
    have ho : oldF S.all t a.1 = if a.2.known = true ∧ (t.2 = false ∨ a.2.at_ < ((fnd t.1 S.all).getD en0).at_) then (a.1, true) else t := by unfold oldF; rw [hf]; rfl
    rw [hr, ho]
    have hcond : (a.2.known = true ∧ (s < 0 ∨ a.2.at_ < atOf (tableP S) s)) ↔ (a.2.known = true ∧ (t.2 = false ∨ a.2.at_ < ((fnd t.1 S.all).getD en0).at_)) := by
      rcases ih with ⟨h1, h2⟩ | ⟨h1, h2, b, hb, hbt⟩
      · simp [h1, h2]
      · have hfb := table_get h hb
        rw [hbt] at hfb
        have e1 : atOf (tableP S) s = b.2.at_ := by unfold atOf; rw [hb]
        have e2 : ((fnd t.1 S.all).getD en0).at_ = b.2.at_ := by rw [hfb]; rfl
        rw [e1, e2]
        simp [h2, show ¬ s < 0 by omega]
    by_cases hc : a.2.known = true ∧ (s < 0 ∨ a.2.at_ < atOf (tableP S) s)
    · rw [if_pos hc, if_pos (hcond.1 hc)]
      exact .inr ⟨by omega, rfl, a, by simpa using ha, rfl⟩
    · rw [if_neg hc, if_neg (fun hh => hc (hcond.2 hh))]
      exact ih

theorem room_ref {S : Ca} (h : CaOk S) : rroom (refS S) = ((roomP S).1, refS (roomP S).2) := by
  have hs := old_same h (tableP S).length (Nat.le_refl _)
  have hks : (sortL (S.all.map (·.1))).length = (tableP S).length := by simp [tableP]
  rw [← hks, List.take_length, hks] at hs
  have hl := tableP_len S
  have e1 : rold (tableP S) = (List.range (tableP S).length).foldl (rst (tableP S)) (-1) := rfl
  have e2 : oldest S.all = (sortL (S.all.map (·.1))).foldl (oldF S.all) (0, false) := rfl
  rw [← e1, ← e2] at hs
  unfold rroom roomP
  show (if (tableP S).length < 8 then _ else _) = _
  rw [hl]
  split
  · rfl
  · show (if 0 ≤ rold (tableP S) then _ else _) = _
    rcases hs with ⟨h1, h2⟩ | ⟨h1, h2, a, ha, hat⟩
    · rw [if_neg (by omega), if_neg (by simp [h2])]
    · rw [if_pos h1, if_pos h2, ← hat]
      simp only
      exact congrArg _ (erase_ref h ha)

/-! Send -/
theorem put_ok' {S : Ca} (h : CaOk S) {k : Int} {e : En} (hk : 0 ≤ k ∧ k < 4294967296) (he : EnOk e) (hl : (fnd k S.all).isSome ∨ S.all.length < 8) : CaOk { S with all := put k e S.all } := h.put hk he hl

theorem send_ref {S : Ca} (h : CaOk S) {to : Int} (ht : 0 ≤ to ∧ to < 4294967296) (bs : List Int) (now : Int) : rsend (refS S) to bs now = (refS (send S to bs now).1, (send S to bs now).2) := by
  unfold rsend send
  rw [bgn_ref]
  simp only
  split
  · rfl
  rename_i hb
  have hn := bgn_rng (S := S) (now := now) (by simpa using hb)
  have ho := bgn_ok h now
  generalize (bgn S now).2 = S1 at ho
  unfold rsendB sendB
  split
  · rfl
  rename_i hbs
  have hth := there (k := to) (table_srt ho)
  show (match (if thr to (tableP S1) = true then (tableP S1)[plc to (tableP S1)]? else none) with
    | some a => _
    | none => _) = _
  rw [hth, fnd_table]
  cases hf : fnd to S1.all with
  | some e =>
    have hen := ho.find hf
    have hw := hen.wait
    simp only [Option.map_some, Option.getD_some]
    split
    · rfl
    · rename_i hk
      by_cases h4 : e.wait.length = 4
      · rw [if_pos (by omega), if_pos h4]; rfl
      · rw [if_neg (by omega), if_neg h4]
        refine congrArg (fun x => (x, _)) ?_
        refine ins_ref ho (ho.put ht ⟨hen.mac, hen.at_, hen.tries, by simp; omega, fun b hb' => ?_, fun hk' => absurd hk' hk⟩ (.inl (by rw [hf]; rfl)))
        rcases List.mem_append.1 hb' with hb' | hb'
        · exact hen.body b hb'
        · simp at hb'; subst hb'; omega
  | none =>
    simp only [Option.map_none, Option.getD_none]
    rw [if_neg (show ¬ en0.known = true by simp [en0]), if_neg (show ¬ en0.wait.length = 4 by simp [en0]), room_ref ho]
    simp only
    have hro := roomP_ok ho
    split
    · rename_i hr
      have hrl := roomP_len ho hr
      refine congrArg (fun x => (x, _)) ?_
      exact ins_ref hro (hro.put ht ⟨by simp, hn, by simp, by simp, fun b hb' => by simp at hb'; subst hb'; omega, fun hk => by simp at hk⟩ (.inr hrl))
    · rfl

/-! Take -/
theorem learn_ref {S : Ca} (h : CaOk S) {a : Ar} {now : Int} (hl : CaOk (learn S a now)) : rlearn (refS S) a now = refS (learn S a now) := ins_ref h hl

theorem take_ref {S : Ca} (h : CaOk S) {a : Ar} (ha : ArOk a) (now : Int) : rtake (refS S) a now = (refS (take S a now).1, (take S a now).2) := by
  unfold rtake take
  rw [bgn_ref]
  simp only
  split
  · rfl
  rename_i hb
  have hn := bgn_rng (S := S) (now := now) (by simpa using hb)
  have ho := bgn_ok h now
  generalize (bgn S now).2 = S1 at ho
  unfold rtakeB takeB
  show (if a.fi = S1.ip ∨ 281474976710655 ≤ a.fm then _ else _) = _
  split
  · rfl
  rename_i hc
  have hth := there (k := a.fi) (table_srt ho)
  have hte := thr_eq (k := a.fi) (table_srt ho)
  rw [fnd_table] at hth hte
  have hro := roomP_ok ho
  have e1 : rtakeF (refS S1) a = (takeL S1 a now).2 ∧ rtakeS (refS S1) a now = refS (takeL S1 a now).1 := by
    unfold rtakeF rtakeS takeL
    show (match (if thr a.fi (tableP S1) = true then (tableP S1)[plc a.fi (tableP S1)]? else none) with
      | some x => _
      | none => _) = _ ∧ (if thr a.fi (tableP S1) = true then _ else if a.ti = S1.ip then _ else _) = _
    rw [hth, hte]
    cases hf : fnd a.fi S1.all with
    | some e =>
      refine ⟨rfl, ?_⟩
      simp only [Option.isSome_some, if_pos]
      exact learn_ref ho (learn_ok ho ha (by omega) hn (.inl (by rw [hf]; rfl)))
    | none =>
      simp only [Option.map_none, Option.isSome_none, Bool.false_eq_true, if_false]
      by_cases hti : a.ti = S1.ip
      · rw [if_pos hti, if_pos hti, room_ref ho]
        simp only
        by_cases hr : (roomP S1).1 = true
        · rw [if_pos hr, if_pos hr]
          exact ⟨rfl, learn_ref hro (learn_ok hro ha (by omega) hn (.inr (roomP_len ho hr)))⟩
        · rw [if_neg hr, if_neg hr]
          exact ⟨rfl, rfl⟩
      · rw [if_neg hti, if_neg hti]
        exact ⟨rfl, rfl⟩
  rw [e1.1, e1.2]
  rfl

end Ev
end Go.Proofs.Ytglkgmomnbdkoaa

/- The document's Tick and the program's: the same answers (no program in sight). -/
namespace Go.Proofs.Ytglkgmomnbdkoaa
namespace Ev

theorem fnd_mid {a : Int × En} {j : Int} {B : List (Int × En)} : ∀ {A : List (Int × En)}, ((A ++ a :: B).map (·.1)).Nodup → fnd j (A ++ B) = if j = a.1 then none else fnd j (A ++ a :: B)
  | [], h => by
    have h' := List.nodup_cons.1 h
    simp only [List.nil_append, fnd]
    by_cases hj : j = a.1
    · rw [if_pos hj, hj]; exact fnd_none.2 h'.1
    · rw [if_neg hj, if_neg hj]
  | x :: A, h => by
    have h' := List.nodup_cons.1 h
    rw [List.cons_append, List.cons_append]
    rw [show ∀ M, fnd j (x :: M) = if j = x.1 then some x.2 else fnd j M from fun _ => rfl, show ∀ M, fnd j (x :: M) = if j = x.1 then some x.2 else fnd j M from fun _ => rfl, fnd_mid (A := A) h'.2]
    by_cases hj : j = x.1
    · have : ¬ x.1 = a.1 := fun e => h'.1 (List.mem_map.2 ⟨a, List.mem_append_right A List.mem_cons_self, e.symm⟩)
      rw [if_pos hj, if_pos hj, if_neg (by rw [hj]; exact this)]
    · rw [if_neg hj, if_neg hj]

theorem fnd_mid2 {a : Int × En} {e : En} {j : Int} {B : List (Int × En)} : ∀ {A : List (Int × En)}, ((A ++ a :: B).map (·.1)).Nodup → fnd j (A ++ (a.1, e) :: B) = if j = a.1 then some e else fnd j (A ++ a :: B)
  | [], h => by
    simp only [List.nil_append, fnd]
    by_cases hj : j = a.1
    · rw [if_pos hj, if_pos hj]
    · rw [if_neg hj, if_neg hj, if_neg hj]
  | x :: A, h => by
    have h' := List.nodup_cons.1 h
    rw [List.cons_append, List.cons_append]
    rw [show ∀ M, fnd j (x :: M) = if j = x.1 then some x.2 else fnd j M from fun _ => rfl, show ∀ M, fnd j (x :: M) = if j = x.1 then some x.2 else fnd j M from fun _ => rfl, fnd_mid2 (A := A) h'.2]
    by_cases hj : j = x.1
    · have : ¬ x.1 = a.1 := fun e => h'.1 (List.mem_map.2 ⟨a, List.mem_append_right A List.mem_cons_self, e.symm⟩)
      rw [if_pos hj, if_pos hj, if_neg (by rw [hj]; exact this)]
    · rw [if_neg hj, if_neg hj]

structure Jn (L : List (Int × En)) (i : Nat) (r s : Ca × List (List Int)) : Prop where
  out : r.2 = s.2
  mac : r.1.mac = s.1.mac
  ip : r.1.ip = s.1.ip
  last : r.1.last = s.1.last
  lost : r.1.lost = s.1.lost
  srt : Ev.srt (r.1.all ++ L.drop i)
  fnd : ∀ j, Ev.fnd j (r.1.all ++ L.drop i) = Ev.fnd j s.1.all

theorem Jn.step {L : List (Int × En)} {i : Nat} {r s : Ca × List (List Int)} {now : Int} (h : Jn L i r s) (hs : (s.1.all.map (·.1)).Nodup) {a : Int × En} (ha : L[i]? = some a) (hk : a.2.known = true → a.2.wait = []) : Jn L (i + 1) (rtickF now r a) (tickF now s a.1) := by
  have hi := (List.getElem?_eq_some_iff.1 ha).1
  have hd : L.drop i = a :: L.drop (i + 1) := by
    rw [List.drop_eq_getElem_cons hi]
    congr 1
    rw [List.getElem?_eq_getElem hi] at ha
    exact Option.some.inj ha
  obtain ⟨h1, h2, h3, h4, h5, h6, h7⟩ := h
  rw [hd] at h6 h7
  have hn := h6.nodup
  have hf : Ev.fnd a.1 s.1.all = some a.2 := by
    rw [← h7]; exact fnd_of_mem hn (by simp)
  have hdel : ∀ j, Ev.fnd j (r.1.all ++ L.drop (i + 1)) = Ev.fnd j (del a.1 s.1.all) := by
    intro j
    rw [fnd_mid hn]
    by_cases hj : j = a.1
    · rw [if_pos hj, hj]; exact (fnd_del_self hs).symm
    · rw [if_neg hj, fnd_del hj, h7]
  have hsub : Ev.srt (r.1.all ++ L.drop (i + 1)) := List.Pairwise.sublist (List.Sublist.map _ ((List.Sublist.refl r.1.all).append (List.sublist_cons_self a (L.drop (i + 1))))) h6
  have hstay : Jn L (i + 1) ({ r.1 with all := r.1.all ++ [a] }, r.2) s := ⟨h1, h2, h3, h4, h5, by simpa using h6, by simpa using h7⟩
  unfold rtickF tickF
  rw [hf]
  simp only [Option.getD_some]
  by_cases hkn : a.2.known = true
  · rw [if_pos hkn]
    by_cases ho : 600 ≤ now - a.2.at_
    · rw [if_pos ho, if_pos (.inl ⟨hkn, ho⟩)]
      exact ⟨h1, h2, h3, h4, by simp [hk hkn, h5], hsub, hdel⟩
    · rw [if_neg ho, if_neg (by rintro (⟨-, h⟩ | ⟨h, -⟩); exact ho h; rw [hkn] at h; cases h), if_neg (by rintro ⟨h, -⟩; rw [hkn] at h; cases h)]
      exact hstay
  · rw [if_neg hkn]
    have hkf : a.2.known = false := by simpa using hkn
    by_cases ho : 10 ≤ now - a.2.at_
    · rw [if_pos ho]
      by_cases h3' : 3 ≤ a.2.tries
      · rw [if_pos h3', if_pos (.inr ⟨hkf, ho, h3'⟩)]
        exact ⟨h1, h2, h3, h4, by simp [h5], hsub, hdel⟩
      · rw [if_neg h3', if_neg (by rintro (⟨h, -⟩ | ⟨-, -, h⟩); exact hkn h; exact h3' h), if_pos ⟨hkf, ho⟩]
        refine ⟨by simp [h1, h2, h3], h2, h3, h4, h5, ?_, fun j => ?_⟩
        · unfold Ev.srt at h6 ⊢
          simpa using h6
        · show Ev.fnd j (r.1.all ++ [(a.1, _)] ++ L.drop (i + 1)) = Ev.fnd j (put a.1 _ s.1.all)
          rw [List.append_assoc, List.singleton_append, fnd_mid2 hn, fnd_put, h7]
    · rw [if_neg ho, if_neg (by rintro (⟨h, -⟩ | ⟨-, h, -⟩); exact hkn h; exact ho h), if_neg (by rintro ⟨-, h⟩; exact ho h)]
      exact hstay

theorem Jn.take {S : Ca} (h : CaOk S) {now : Int} (hn : 0 ≤ now ∧ now ≤ 1099511627776) : ∀ i, i ≤ (tableP S).length → Jn (tableP S) i (((tableP S).take i).foldl (rtickF now) ({ refS S with all := [] }, [])) (((sortL (S.all.map (·.1))).take i).foldl (tickF now) (S, []))
  | 0, _ => ⟨rfl, rfl, rfl, rfl, rfl, by simpa using table_srt h, fun j => by simpa using fnd_table j⟩
  | i + 1, hi => by
    have ih := Jn.take h hn i (by omega)
    have hks : (tableP S).map (·.1) = sortL (S.all.map (·.1)) := by simp [tableP, Function.comp_def]
    have ha : (tableP S)[i]? = some (tableP S)[i] := List.getElem?_eq_getElem (by omega)
    generalize (tableP S)[i] = a at ha
    have hk : (sortL (S.all.map (·.1)))[i]? = some a.1 := by rw [← hks, List.getElem?_map, ha]; rfl
    have hl : i ≤ (sortL (S.all.map (·.1))).length := by rw [← hks]; simp; omega
    have ht := TkI.take h hn i hl
    have hen := (refS_ok h).ens a (List.mem_of_getElem? ha)
    rw [List.take_add_one, ha, List.foldl_append, List.take_add_one, hk, List.foldl_append]
    exact ih.step ht.ok.keys ha hen.known

theorem tick_ref {S : Ca} (h : CaOk S) (now : Int) : rtick (refS S) now = (refS (tick S now).1, (tick S now).2) := by
  unfold rtick tick
  rw [bgn_ref]
  simp only
  split
  · rfl
  rename_i hb
  have hn := bgn_rng (S := S) (now := now) (by simpa using hb)
  have ho := bgn_ok h now
  generalize (bgn S now).2 = S1 at ho
  have hj := Jn.take ho hn (tableP S1).length (Nat.le_refl _)
  have hks : (sortL (S1.all.map (·.1))).length = (tableP S1).length := by simp [tableP]
  rw [← hks, List.take_length, hks, List.take_length] at hj
  have e1 : rtickB (refS S1) now = (tableP S1).foldl (rtickF now) ({ refS S1 with all := [] }, []) := rfl
  have e2 : tickB S1 now = (sortL (S1.all.map (·.1))).foldl (tickF now) (S1, []) := rfl
  rw [← e1, ← e2] at hj
  have hB := (tickB_ok ho hn).1
  have hd : (tableP S1).drop (tableP S1).length = [] := by simp
  have h6 := hj.srt
  have h7 := hj.fnd
  rw [hd, List.append_nil] at h6 h7
  have := refS_of hB hj.mac hj.ip hj.last hj.lost h6 h7
  rw [this, hj.out]

end Ev
end Go.Proofs.Ytglkgmomnbdkoaa

/- Frames and bytes are changed by those who got them: a cache is left as it is. -/
namespace Go.Proofs.Ytglkgmomnbdkoaa
namespace Ev
variable {ext : Nat → Nat → Option Value} {H : Heap}

theorem bin_xor8 (a : Int) : ∃ m, bin (Z ext) .xor 5 (.int .u8 a) (.int .u8 1) = some (.int .u8 m) := ⟨_, rfl⟩

theorem B8_get (bs : List Int) (i : Nat) : (B8 bs)[i]? = (bs[i]?).map (.int .u8) := by simp [B8]

theorem B8_set (bs : List Int) (i : Nat) (m : Int) : (B8 bs).set i (.int .u8 m) = B8 (bs.set i m) := by simp [B8, List.map_set]

theorem FrL.both {H0 : Heap} {fp fq : Nat → Prop} {o : Option Nat} (hq : ∀ b, H0.next ≤ b → b < H.next → ¬ fq b) : ∀ {vs : List Value} {fs : List (List Int)}, FrL H0 H fp o vs fs → FrL H0 H (fun b => fp b ∨ fq b) o vs fs
  | [], [], _ => trivial
  | _ :: _, _ :: _, h => ⟨⟨h.1.1, fun b hb => ⟨fun hh => hh.elim (h.1.2 b hb).1 (hq b (h.1.1.bk hb).1 (h.1.1.bk hb).2.1), (h.1.2 b hb).2⟩⟩, FrL.both hq h.2⟩
  | [], _ :: _, h => h.elim
  | _ :: _, [], h => h.elim

theorem Frs.both {H0 : Heap} {fp fq : Nat → Prop} {v : Value} {fs : List (List Int)} (h : Frs ext H0 H fp v fs) (hq : ∀ b, H0.next ≤ b → b < H.next → ¬ fq b) : Frs ext H0 H (fun b => fp b ∨ fq b) v fs := by
  obtain ⟨⟨vs, p, c, e1, e2, e3⟩, e4⟩ := h
  exact ⟨⟨vs, p, c, e1, e2, e3.both hq⟩, fun b hb => ⟨(e4 b hb).1, fun hh => hh.elim (e4 b hb).2 (hq b (e4 b hb).1.1 (e4 b hb).1.2)⟩⟩

theorem Frs.kp {H0 H' : Heap} {fp S : Nat → Prop} {v : Value} {fs : List (List Int)} (h : Frs ext H0 H fp v fs) (hk : Kp S H H') (hS : ∀ b, H0.next ≤ b → b < H.next → ¬ fp b → ¬ S b) : Frs ext H0 H' fp v fs := by
  obtain ⟨⟨vs, p, c, e1, e2, e3⟩, e4⟩ := h
  refine ⟨⟨vs, p, c, e1, cellsAt_kp hk e2 (fun b hb => (e4 b hb).1.2) (fun b hb => hS b (e4 b hb).1.1 (e4 b hb).1.2 (e4 b hb).2), e3.kp hk (fun b a1 a2 a3 _ => hS b a1 a2 a3) fun _ _ h => h⟩, fun b hb => ⟨⟨(e4 b hb).1.1, Nat.lt_of_lt_of_le (e4 b hb).1.2 hk.le⟩, (e4 b hb).2⟩⟩

/-- Frames whose bytes may be changed. -/
def XF (L : Nat) (fp : Nat → Prop) (o : Option Nat) (H : Heap) (vs : List Value) : Prop :=
  ∀ (j : Nat) (v : Value), vs[j]? = some v → ∃ w bs, v = .slice (some ⟨w, 0, none⟩) bs.length (unk + 1) ∧ L ≤ w ∧ w < H.next ∧ ¬ fp w ∧ o ≠ some w ∧ H.get w = some (.cells (B8 bs) 5)

theorem FrL.xf {H0 : Heap} {fp : Nat → Prop} {o : Option Nat} : ∀ {vs : List Value} {fs : List (List Int)}, FrL H0 H fp o vs fs → XF H0.next fp o H vs
  | [], [], _ => fun j v h => by simp at h
  | v :: vs, f :: fs, h => fun j u hu => by
    cases j with
    | zero =>
      simp at hu; subst hu
      obtain ⟨w, h1, h2, h3, h4⟩ := h.1.1
      have := h.1.2 w (by rw [h1]; rfl)
      exact ⟨w, f, h1, h2, h3, this.1, this.2, h4⟩
    | succ j => exact FrL.xf h.2 j u (by simpa using hu)
  | [], _ :: _, h => h.elim
  | _ :: _, [], h => h.elim

theorem XF.set {L : Nat} {fp : Nat → Prop} {o : Option Nat} {vs : List Value} (h : XF L fp o H vs) {w : Nat} {bs bs' : List Int} (hg : H.get w = some (.cells (B8 bs) 5)) (hl : bs'.length = bs.length) : XF L fp o (H.set w (.cells (B8 bs') 5)) vs := by
  intro j v hv
  obtain ⟨w', bs2, h1, h2, h3, h4, h5, h6⟩ := h j v hv
  by_cases hw : w' = w
  · subst hw
    rw [hg] at h6
    have e : B8 bs = B8 bs2 := by injection h6 with h6; injection h6
    have := congrArg List.length e
    simp at this
    exact ⟨w', bs', by rw [hl, this]; exact h1, h2, by simpa using h3, h4, h5, by simp⟩
  · exact ⟨w', bs2, h1, h2, by simpa using h3, h4, h5, by rw [Heap.get_set_ne hw]; exact h6⟩

theorem FsOk.len {mac : Int} : ∀ {fs : List (List Int)} {n : Int}, FsOk mac fs n → ∀ f ∈ fs, f.length ≤ 1600
  | [], _, _ => by simp
  | f :: fs, n, h => by
    obtain ⟨b, m, h1, h2, -⟩ := h
    intro g hg
    rcases List.mem_cons.1 hg with rfl | hg
    · obtain ⟨to, kind, bs, rfl, -, -, -, hl, -⟩ := h1.1
      simp [frameB]
      omega
    · exact FsOk.len h2 g hg

def xoS (X : Ctx) (v37_146 : Value) (K : Heap → Prop) (H_170 : Heap) : Prop :=
 ∀ P_177 : List Value → Heap → Prop, (∀ x12_178 : Value, ∀ H_179,
 (Ok2 (builtin X H_179 .len [29] [v37_146]) fun v61_182 H_183 =>
 Ok (bin X .lss 3 x12_178 v61_182) fun v62_184 =>
 Br v62_184
 (IA v37_146 x12_178 1 fun v67_187 =>
 Ld1 X H_183 v67_187 fun v68_188 =>
 Ok (bin X .xor 5 v68_188 (.int .u8 1)) fun v69_189 =>
 IA v37_146 x12_178 1 fun v70_190 =>
 St H_183 v70_190 1 v69_189 fun H_192 =>
 Ok (bin X .add 3 x12_178 (.int .i64 1)) fun v64_194 =>
 P_177 [v64_194] H_192)
 (K H_183)) →
 P_177 [x12_178] H_179) →
 P_177 [(.int .i64 0)] H_170

/-- Bytes that are changed by who laid them. -/
theorem xo {v : Value} {bs : List Int} (hv : ∃ p c, v = .slice p bs.length c) (hd : bs.length ≠ 0 → ∃ d, v = .slice (some ⟨d, 0, none⟩) bs.length (unk + 1) ∧ d < H.next ∧ H.get d = some (.cells (B8 bs) 5)) (hl : bs.length ≤ 140737488355328) {K : Heap → Prop}
    (k : ∀ H', Kp (fun b => bk v = some b) H H' → K H') : xoS (Z ext) v K H := by
  intro P hP
  obtain ⟨p, c, rfl⟩ := hv
  refine loop_up bs.length (fun i vs H' => vs = [.int .i64 i] ∧ Kp (fun b => bk (.slice p bs.length c) = some b) H H' ∧ (bs.length ≠ 0 → ∃ d bs', p = some ⟨d, 0, none⟩ ∧ bs'.length = bs.length ∧ H'.get d = some (.cells (B8 bs') 5))) ?_ ?_ (Nat.zero_le _) ⟨rfl, .refl _ _, fun h0 => ?_⟩
  · rintro i _ H1 hi ⟨rfl, k1, hg⟩ K'
    refine hP _ _ ?_
    obtain ⟨d, bs', rfl, hl', g1⟩ := hg (by omega)
    have hx : (B8 bs')[i]? = some (.int .u8 (bs'[i]'(by omega))) := by rw [B8_get, List.getElem?_eq_getElem (by omega)]; rfl
    obtain ⟨m, hm⟩ := bin_xor8 (ext := ext) (bs'[i]'(by omega))
    have e1 : 0 + (i : Int).toNat * 1 = i := by omega
    simp only [len_29, Ok2_some, bin_lss, Ok_some, Br_dec, IA_slice, e1, Ld1_ptr, rd1_own g1, getN_eq, hx, hm]
    refine ⟨fun _ => ⟨by omega, by omega, ?_⟩, fun h => absurd (by omega) h⟩
    refine st_one' g1 (by simp) (by simp; omega) fun H2 n2 g2 k2 => ?_
    rw [B8_set] at g2
    simp only [bin_add, Ok_some]
    rw [wrap_i64 (by omega)]
    exact K' _ _ ⟨by simp, k1.then k2 fun b _ he => by rw [he]; rfl, fun _ => ⟨d, _, rfl, by simp [hl'], g2⟩⟩
  · rintro _ H1 ⟨rfl, k1, hg⟩
    refine hP _ _ ?_
    simp only [len_29, Ok2_some, bin_lss, Ok_some, Br_dec]
    exact ⟨fun h => absurd h (by omega), fun _ => k H1 k1⟩
  · obtain ⟨d, h1, h2, h3⟩ := hd h0
    cases h1
    exact ⟨d, bs, rfl, rfl, h3⟩

def xfS (X : Ctx) (x7_9 : Value) (K : Heap → Prop) (H_17 : Heap) : Prop :=
 ∀ P_25 : List Value → Heap → Prop, (∀ x14_26 : Value, ∀ H_27,
 (Ok2 (builtin X H_27 .len [34] [x7_9]) fun v101_30 H_31 =>
 Ok (bin X .lss 3 x14_26 v101_30) fun v102_32 =>
 Br v102_32
 (∀ P_34 : List Value → Heap → Prop, (∀ x15_35 : Value, ∀ H_36,
 (IA x7_9 x14_26 1 fun v108_40 =>
 Ld1 X H_36 v108_40 fun v109_41 =>
 Ok2 (builtin X H_36 .len [29] [v109_41]) fun v110_42 H_43 =>
 Ok (bin X .lss 3 x15_35 v110_42) fun v111_44 =>
 Br v111_44
 (IA x7_9 x14_26 1 fun v116_47 =>
 Ld1 X H_43 v116_47 fun v117_48 =>
 IA v117_48 x15_35 1 fun v119_50 =>
 Ld1 X H_43 v119_50 fun v120_51 =>
 Ok (bin X .xor 5 v120_51 (.int .u8 1)) fun v121_52 =>
 IA v117_48 x15_35 1 fun v122_53 =>
 St H_43 v122_53 1 v121_52 fun H_55 =>
 Ok (bin X .add 3 x15_35 (.int .i64 1)) fun v113_57 =>
 P_34 [v113_57] H_55)
 (Ok (bin X .add 3 x14_26 (.int .i64 1)) fun v104_60 =>
 P_25 [v104_60] H_43)) →
 P_34 [x15_35] H_36) →
 P_34 [(.int .i64 0)] H_31)
 (K H_31)) →
 P_25 [x14_26] H_27) →
 P_25 [(.int .i64 0)] H_17

/-- Frames that are changed by who got them. -/
theorem xf {H0 : Heap} {fp : Nat → Prop} {v : Value} {fs : List (List Int)} (h : Frs ext H0 H fp v fs) (hl : fs.length ≤ 1000) (hfl : ∀ f ∈ fs, f.length ≤ 1600) {K : Heap → Prop} (k : ∀ H', Kp (fun b => H0.next ≤ b ∧ ¬ fp b) H H' → K H') : xfS (Z ext) v K H := by
  obtain ⟨⟨vs, p, c, rfl, hc, hL⟩, hown⟩ := h
  have hx := hL.xf
  intro P hP
  have hvl : ∀ {vs : List Value} {fs : List (List Int)} {o : Option Nat}, FrL H0 H fp o vs fs → vs.length = fs.length := by
    intro vs
    induction vs with
    | nil => intro fs o h; cases fs with
      | nil => rfl
      | cons _ _ => exact h.elim
    | cons v vs ih => intro fs o h; cases fs with
      | nil => exact h.elim
      | cons f fs => simp [ih h.2]
  have hlen := hvl hL
  let Iv : Heap → Prop := fun H' => Kp (fun b => (H0.next ≤ b ∧ ¬ fp b) ∧ bk (.slice p fs.length c) ≠ some b) H H' ∧ XF H0.next fp (bk (.slice p fs.length c)) H' vs
  have hcs : ∀ H', Iv H' → cellsAt (Z ext) H' fs.length (.slice p fs.length c) = some vs := fun H' hI => cellsAt_kp hI.1 hc (fun b hb => (hown b hb).1.2) fun b hb hh => hh.2 hb
  refine loop_up fs.length (fun i us H' => us = [.int .i64 i] ∧ Iv H') ?_ ?_ (Nat.zero_le _) ⟨rfl, .refl _ _, hx⟩
  · rintro i _ H1 hi ⟨rfl, hI1⟩ K1
    refine hP _ _ ?_
    simp only [len_34, Ok2_some, bin_lss, Ok_some, Br_dec]
    refine ⟨fun _ => ?_, fun h => absurd (by omega) h⟩
    intro P2 hP2
    have hv : vs[i]? = some (vs[i]'(by omega)) := List.getElem?_eq_getElem _
    generalize vs[i]'(by omega) = u at hv
    cases p with
    | none => have := (cellsAt_nil hc).1; omega
    | some a =>
      obtain ⟨pb, po, ps⟩ := a
      obtain ⟨w0, bs0, hu, -⟩ := hx i u hv
      have hrd : ∀ H', Iv H' → rd1 (Z ext) H' ⟨pb, po + i, ps⟩ = some u := fun H' hI' => by
        have := rd1_cellsAt (hcs H' hI') hi
        rw [hv] at this; exact this
      have e1 : po + (i : Int).toNat * 1 = po + i := by omega
      have hinc : wrapF .i64 ((i : Int) + 1) = ((i + 1 : Nat) : Int) := by rw [wrap_i64 (by omega)]; omega
      have hbl : bs0.length ≤ 1600 := by
        have hfi : fs[i]? = some fs[i] := List.getElem?_eq_getElem hi
        obtain ⟨u', hu', w1, hw1, -⟩ := FrL.get' hL hfi
        rw [hv] at hu'
        cases hu'
        rw [hu] at hw1
        injection hw1 with _ h2 _
        rw [h2]
        exact hfl _ (List.getElem_mem hi)
      refine loop_up bs0.length (fun j us H' => us = [.int .i64 j] ∧ Iv H') ?_ ?_ (Nat.zero_le _) ⟨rfl, hI1⟩
      · rintro j _ H2 hj ⟨rfl, hI2⟩ K2
        refine hP2 _ _ ?_
        obtain ⟨w, bs, hu2, hw1, hw2, hw3, hw4, hw5⟩ := hI2.2 i u hv
        have hbl' : bs.length = bs0.length := by rw [hu] at hu2; injection hu2 with _ h2 _; exact h2.symm
        have hg : (B8 bs)[j]? = some (.int .u8 (bs[j]'(by omega))) := by rw [B8_get, List.getElem?_eq_getElem (by omega)]; rfl
        obtain ⟨m, hm⟩ := bin_xor8 (ext := ext) (bs[j]'(by omega))
        have e2 : 0 + (j : Int).toNat * 1 = j := by omega
        have hr := hrd H2 hI2
        simp only [IA_slice, e1, Ld1_ptr, hr, Ok_some, hu2, len_29, Ok2_some, bin_lss, Br_dec, e2, rd1_own hw5, getN_eq, hg, hm]
        refine ⟨by omega, fun _ => ⟨by omega, by omega, by omega, ?_⟩, fun h => absurd (by omega) h⟩
        refine st_one hw5 (by simp) (by simp; omega) ?_
        rw [B8_set]
        simp only [bin_add, Ok_some]
        rw [wrap_i64 (by omega)]
        refine K2 _ _ ⟨by simp, ?_, hI2.2.set hw5 (by simp)⟩
        exact hI2.1.set' _ fun _ => ⟨⟨hw1, hw3⟩, hw4⟩
      · rintro _ H2 ⟨rfl, hI2⟩
        refine hP2 _ _ ?_
        have hr := hrd H2 hI2
        simp only [IA_slice, e1, Ld1_ptr, hr, Ok_some, hu, len_29, Ok2_some, bin_lss, Br_dec, bin_add, hinc]
        exact ⟨by omega, fun h => absurd h (by omega), fun _ => K1 _ _ ⟨rfl, hI2⟩⟩
  · rintro _ H1 ⟨rfl, hI1⟩
    refine hP _ _ ?_
    simp only [len_34, Ok2_some, bin_lss, Ok_some, Br_dec]
    exact ⟨fun h => absurd h (by omega), fun _ => k H1 (hI1.1.mono fun _ _ h => h.1)⟩

end Ev
end Go.Proofs.Ytglkgmomnbdkoaa

/- A deed on both caches. -/
namespace Go.Proofs.Ytglkgmomnbdkoaa
namespace Ev
variable {ext : Nat → Nat → Option Value} {H : Heap}

/-- Both caches, side by side. -/
structure Pr (ext : Nat → Nat → Option Value) (H : Heap) (cx mb cy : Nat) (S : Ca) (fx fy : Nat → Prop) (lv : Value) (es : List ((Int × En) × Value)) : Prop where
  cat : CAt ext H fx cx mb S
  ra : RA ext H fy cy (refS S) lv es
  ok : CaOk S
  ncx : ¬ fy cx
  nmb : ¬ fy mb
  ncy : ¬ fx cy

def PrAt (ext : Nat → Nat → Option Value) (H : Heap) (cx mb cy : Nat) (S : Ca) : Prop := ∃ fx fy lv es, Pr ext H cx mb cy S fx fy lv es

theorem PrAt.kp {P : Nat → Prop} {H' : Heap} {cx mb cy : Nat} {S : Ca} (h : ∃ fx fy lv es, Pr ext H cx mb cy S fx fy lv es ∧ (∀ b, fx b → ¬ P b) ∧ (∀ b, fy b → ¬ P b)) (hk : Kp P H H') : PrAt ext H' cx mb cy S := by
  obtain ⟨fx, fy, lv, es, h, h1, h2⟩ := h
  exact ⟨fx, fy, lv, es, h.cat.kp hk h1, h.ra.kp hk h2, h.ok, h.ncx, h.nmb, h.ncy⟩

def deedC (d : Deed) (u : Value) : List Value := [.int .i64 d.do_, .int .u32 d.to, u, .int .i64 d.arp.op, .int .u64 d.arp.fm, .int .u32 d.arp.fi, .int .u64 d.arp.tm, .int .u32 d.arp.ti, .int .i64 d.now]

theorem cp29' {v : Value} {bs : List Int} (hv : BAt ext H v bs) (hl : bs.length ≤ 140737488355328) {K : Value → Heap → Prop}
    (k : ∀ r H', BAt ext H' r bs → (∀ b, bk r = some b → H.next ≤ b) → Ext H H' → (bs.length ≠ 0 → ∃ d, r = .slice (some ⟨d, 0, none⟩) bs.length (unk + 1) ∧ H.next ≤ d ∧ d < H'.next ∧ H'.get d = some (.cells (B8 bs) 5)) → K r H') :
    Ok2 (builtin (Z ext) (H.alloc (.cells [] 5)) .append [29, 29] [.slice (some ⟨H.next, 0, none⟩) 0 0, v]) K := by
  have := cp29 hv hl k
  rwa [bsl_29_0, Ok2_some] at this

/-- A deed that may be done. -/
structure DeedOk (ext : Nat → Nat → Option Value) (d : Deed) (u : Value) : Prop where
  toR : 0 ≤ d.to ∧ d.to < 4294967296
  arp : ArOk d.arp
  bk : bk u = none
  bat : ∀ H : Heap, BAt ext H u d.body
  len : d.body.length ≤ 140737488355328

theorem veq_int (a : Int) : veq 3 (.int .i64 a) (.int .i64 a) = true := by simp [veq]
theorem veq_undef : veq 3 undef undef = true := by kernel_rfl

theorem c20 {cx mb cy : Nat} {S : Ca} {fx fy : Nat → Prop} {lv : Value} {es : List ((Int × En) × Value)} (h : Pr ext H cx mb cy S fx fy lv es) (hlo : S.lost < 4000000000000000000) {d : Deed} {u : Value} (hd : DeedOk ext d u) :
    C (Z ext) 20 [.pointer (some ⟨cx, 0, none⟩), .pointer (some ⟨cy, 0, none⟩), .agg ⟨deedC d u⟩] H fun r H' => r = .bool true ∧ (∃ S', PrAt ext H' cx mb cy S' ∧ S'.lost ≤ S.lost + 32) ∧ Kp (fun b => b = cx ∨ b = mb ∨ b = cy) H H' := by
  refine C_all fun Q hQ => ?_
  apply w20_ok rfl
  simp only [w20, Al_eq, cellsOf_agg]
  have E1 : Ext H (H.alloc (.cells (deedC d u) 33)) := .alloc _ _ _
  have g1 : (H.alloc (.cells (deedC d u) 33)).get H.next = some (.cells (deedC d u) 33) := by simp
  have n1 : (H.alloc (.cells (deedC d u) 33)).next = H.next + 1 := by simp
  generalize H.alloc (.cells (deedC d u) 33) = H1 at E1 g1 n1 ⊢
  intro P8 hP8
  have hcx := h.cat.clt
  have hmb := h.cat.mlt
  have hcy := h.ra.clt
  have hne : cx ≠ cy := fun e => h.ncy (e ▸ h.cat.fc)
  have hne2 : mb ≠ cy := fun e => h.ncy (e ▸ h.cat.fm)
  -- what comes behind both calls
  have hend : ∀ (a b : Value) (e : Int) (fs : List (List Int)) (S' : Ca) (H0 H3 : Heap) (fx' fy' : Nat → Prop) (lv' : Value) (es' : List ((Int × En) × Value)), Pr ext H3 cx mb cy S' fx' fy' lv' es' → Frs ext H0 H3 (fun b => fx' b ∨ fy' b) a fs → FV ext H3 b fs → fs.length ≤ 1000 → (∀ f ∈ fs, f.length ≤ 1600) →
      H.next ≤ H0.next → S'.lost ≤ S.lost + 32 → Kp (fun b => b = cx ∨ b = mb ∨ b = cy) H H3 → P8 [a, b, .int .i64 e, .int .i64 e] H3 := by
    intro a b e fs S' H0 H3 fx' fy' lv' es' hp hF hV hl hfl hle hlost hk
    refine hP8 _ _ _ _ _ ?_
    refine C_mono (c37 hF.fv hV hl) ?_
    rintro _ _ ⟨rfl, rfl⟩
    simp only [Br_true, bin_eql, Ok_some, decide_true]
    refine xf hF hl hfl (K := fun H_31 => _) ?_
    intro H4 k4
    have p4 : Pr ext H4 cx mb cy S' fx' fy' lv' es' := ⟨hp.cat.kp k4 fun b hb hh => hh.2 (.inl hb), hp.ra.kp k4 fun b hb hh => hh.2 (.inr hb), hp.ok, hp.ncx, hp.nmb, hp.ncy⟩
    have hln := hp.ok.len
    have hrl : (refS S').all.length = S'.all.length := tableP_len S'
    refine C_mono (c13 p4.cat hp.ok) ?_
    rintro ta H5 ⟨o5, f5, E5⟩
    have p5 : Pr ext H5 cx mb cy S' fx' fy' lv' es' := ⟨p4.cat.kp E5 fun _ _ => id, p4.ra.kp E5 fun _ _ => id, hp.ok, hp.ncx, hp.nmb, hp.ncy⟩
    refine C_mono (c22 p5.ra (by omega) fun x hx => by have := (refS_ok hp.ok).ens x hx; have := this.wait; omega) ?_
    rintro tb H6 ⟨o6, f6, E6⟩
    have p6 : Pr ext H6 cx mb cy S' fx' fy' lv' es' := ⟨p5.cat.kp E6 fun _ _ => id, p5.ra.kp E6 fun _ _ => id, hp.ok, hp.ncx, hp.nmb, hp.ncy⟩
    have o5' : Own H6 ta 4 (tableP S').length (tableC (tableP S')) 42 := by rw [tableP_len]; exact o5.kp E6 fun _ _ => id
    refine C_mono (c21 o5' o6 (by rw [tableP_len]; omega)) ?_
    rintro _ _ ⟨rfl, rfl⟩
    simp only [Br_true]
    refine C_mono (c17 p6.cat) ?_
    rintro _ _ ⟨rfl, rfl⟩
    simp only [nilCheck_ptr, Ok_some, FA_ptr, Ld1_ptr, rd1_own p6.ra.cell, getN_zero, getN_succ, Nat.zero_add, bin_eql, veq_int, true_and]
    refine hQ _ _ ⟨by simp [refS], ⟨S', ⟨fx', fy', lv', es', p6⟩, hlost⟩, ?_⟩
    refine ((hk.then k4 fun b hb hh => ?_).trans (E5.mono fun _ _ h => h.elim)).trans (E6.mono fun _ _ h => h.elim)
    omega
  have h1 : Pr ext H1 cx mb cy S fx fy lv es := ⟨h.cat.kp E1 fun _ _ => id, h.ra.kp E1 fun _ _ => id, h.ok, h.ncx, h.nmb, h.ncy⟩
  have hro := refS_ok h.ok
  have hrlo : (refS S).lost = S.lost := rfl
  simp only [FA_ptr, Ld1_ptr, Nat.zero_add, rd1_own g1, deedC, getN_zero, getN_succ, Ok_some, bin_eql, Br_dec]
  refine ⟨fun h0 => ?_, fun h0 => ⟨fun h1' => ?_, fun h1' => ?_⟩⟩
  · -- Send
    rw [bsl_29_0, Ok2_some]
    have E0 : Ext H1 (H1.alloc (.cells [] 5)) := .alloc _ _ _
    have g0 : (H1.alloc (.cells [] 5)).get H.next = _ := (E0.get' (by omega)).trans g1
    simp only [rd1_own g0, deedC, getN_zero, getN_succ, Ok_some]
    refine cp29' (hd.bat H1) hd.len ?_
    intro own H2 hb2 f2 E2 hd2
    have hbo : ∀ b, bk own = some b → H1.next ≤ b ∧ b < H2.next := fun b hb => ⟨f2 b hb, hb2.lt b hb⟩
    have h2 : Pr ext H2 cx mb cy S fx fy lv es := ⟨h1.cat.kp E2 fun _ _ => id, h1.ra.kp E2 fun _ _ => id, h.ok, h.ncx, h.nmb, h.ncy⟩
    have g2 : H2.get H.next = _ := (E2.get' (by omega)).trans g1
    have hle2 := E2.le
    simp only [rd1_own g2, deedC, getN_zero, getN_succ, Ok_some]
    refine C_mono (c10 h2.cat h.ok (by omega) hd.toR hb2 (fun b hb hf => by have := hbo b hb; have := h.cat.lt b hf; omega) d.now) ?_
    rintro _ H3 ⟨fv, fx', rfl, c3, F3, k3, hg3⟩
    have g3 : H3.get H.next = _ := (k3.get _ (by omega) (by omega)).trans g2
    have hle3 := k3.le
    have r3 := h2.ra.kp k3 fun b hb hh => by rcases hh with rfl | rfl; exact h.ncx hb; exact h.nmb hb
    simp only [extract_mk, getN_zero, getN_succ, Ok_some, rd1_own g3, deedC]
    refine C_mono (c34 r3 hro (by omega) hd.toR (hd.bat H3) (fun b hb => by rw [hd.bk] at hb; cases hb) d.now) ?_
    rintro _ H4 ⟨gv, rfl, ⟨lv4, es4, r4⟩, F4, k4⟩
    rw [send_ref h.ok hd.toR] at r4 F4 ⊢
    simp only [extract_mk, getN_zero, getN_succ, Ok_some]
    have hle4 := k4.le
    refine xo (K := fun H_183 => _) hb2.shape (fun hb0 => ?_) hd.len ?_
    · obtain ⟨q, q1, q2, q3, q4⟩ := hd2 hb0
      refine ⟨q, q1, by omega, ?_⟩
      rw [k4.get q (by omega) (by omega), k3.get q (by omega) (by omega), q4]
    intro H5 k5
    have hk2 := send_kept h.ok hd.toR d.body d.now
    obtain ⟨n, hF, -⟩ := send_counts h.ok (to := d.to) (hd.bat H1).byt d.now
    have hgr : ∀ b, H2.next ≤ b → b < H3.next → ¬ gr fy H3 H4 b := fun b b1 b2 hh => by
      rcases hh with hh | hh
      · have := h.ra.lt b hh; omega
      · omega
    have hF3 : Frs ext H2 H5 (fun b => fx' b ∨ gr fy H3 H4 b) fv (send S d.to d.body d.now).2.1 := ((F3.both hgr).kp k4 fun b b1 _ _ he => by omega).kp k5 fun b b1 _ _ he => by have := hbo b he; omega
    have hF4 : Frs ext H3 H5 (fun _ => False) gv (send S d.to d.body d.now).2.1 := F4.kp k5 fun b b1 _ _ he => by have := hbo b he; omega
    have hcy' : ¬ fx' cy := fun hh => by
      rcases hg3 cy hh with hh | hh
      · exact h.ncy hh
      · omega
    refine hend fv gv _ _ (send S d.to d.body d.now).1 H2 H5 fx' (gr fy H3 H4) lv4 es4 ⟨(c3.kp k4 fun b hb he => hcy' (he ▸ hb)).kp k5 fun b hb he => ?_, r4.kp k5 fun b hb he => ?_, hk2.ok, fun hh => ?_, fun hh => ?_, hcy'⟩ hF3 hF4.fv (by have := send_len (S := S) (to := d.to) (bs := d.body) (now := d.now); omega) hF.len (by omega) (by have := hk2.lost; omega) ?_
    · have h5 := hbo b he
      rcases hg3 b hb with hh | hh
      · have := h.cat.lt b hh; omega
      · omega
    · have h5 := hbo b he
      rcases hb with hh | hh
      · have := h.ra.lt b hh; omega
      · omega
    · rcases hh with hh | hh
      · exact h.ncx hh
      · omega
    · rcases hh with hh | hh
      · exact h.nmb hh
      · omega
    · refine ((((E1.trans E2).mono fun _ _ h => h.elim).then k3 fun b hb hh => ?_).then k4 fun b hb hh => ?_).then k5 fun b hb hh => ?_
      · rcases hh with hh | hh
        · exact .inl hh
        · exact .inr (.inl hh)
      · exact .inr (.inr hh)
      · have := hbo b hh; omega
  · -- Take
    rw [LdN_ptr, rdN_own g1, show cutN 3 5 (deedC d u) = some d.arp.cells from rfl, Ok_some]
    refine C_mono (c11 h1.cat h.ok hd.arp d.now) ?_
    rintro _ H2 ⟨fv, rfl, c2, F2, k2⟩
    have g2 : H2.get H.next = _ := (k2.get _ (by omega) (by omega)).trans g1
    have r2 := h1.ra.kp k2 fun b hb hh => by rcases hh with rfl | rfl; exact h.ncx hb; exact h.nmb hb
    simp only [extract_mk, getN_zero, getN_succ, Ok_some]
    rw [LdN_ptr, rdN_own g2, show cutN 3 5 (deedC d u) = some d.arp.cells from rfl, Ok_some]
    simp only [rd1_own g2, deedC, getN_zero, getN_succ, Ok_some]
    refine C_mono (c35 r2 hro hd.arp d.now) ?_
    rintro _ H3 ⟨gv, rfl, ⟨lv3, es3, r3⟩, V3, k3⟩
    rw [take_ref h.ok hd.arp] at r3 V3 ⊢
    simp only [extract_mk, getN_zero, getN_succ, Ok_some]
    have hk2 := take_kept h.ok hd.arp d.now
    obtain ⟨n, hF, -⟩ := take_counts h.ok h.cat.wb hd.arp d.now
    have hle1 := E1.le
    have hle2 := k2.le
    have hgr : ∀ b, H1.next ≤ b → b < H2.next → ¬ gr fy H2 H3 b := fun b b1 b2 hh => by
      rcases hh with hh | hh
      · have := h.ra.lt b hh; omega
      · omega
    have hF3 : Frs ext H1 H3 (fun b => fx b ∨ gr fy H2 H3 b) fv (take S d.arp d.now).2.1 := (F2.both hgr).kp k3 fun b b1 _ _ he => by omega
    refine hend fv gv _ _ (take S d.arp d.now).1 H1 H3 fx (gr fy H2 H3) lv3 es3 ⟨c2.kp k3 fun b hb he => h.ncy (he ▸ hb), r3, hk2.ok, fun hh => ?_, fun hh => ?_, h.ncy⟩ hF3 V3 (by have := take_len h.ok (a := d.arp) (now := d.now); omega) hF.len hle1 (by have := hk2.lost; omega) ?_
    · rcases hh with hh | hh
      · exact h.ncx hh
      · omega
    · rcases hh with hh | hh
      · exact h.nmb hh
      · omega
    · refine ((E1.mono fun _ _ h => h.elim).then k2 fun b hb hh => ?_).then k3 fun b hb hh => ?_
      · rcases hh with hh | hh
        · exact .inl hh
        · exact .inr (.inl hh)
      · exact .inr (.inr hh)
  · -- Tick
    refine C_mono (c12 h1.cat h.ok (by omega) d.now) ?_
    rintro _ H2 ⟨fv, rfl, c2, F2, k2⟩
    have g2 : H2.get H.next = _ := (k2.get _ (by omega) (by omega)).trans g1
    have r2 := h1.ra.kp k2 fun b hb hh => by rcases hh with rfl | rfl; exact h.ncx hb; exact h.nmb hb
    simp only [extract_mk, getN_zero, getN_succ, Ok_some, rd1_own g2, deedC]
    refine C_mono (c36 r2 hro (by omega) d.now) ?_
    rintro _ H3 ⟨gv, rfl, ⟨lv3, es3, r3⟩, V3, k3⟩
    rw [tick_ref h.ok] at r3 V3 ⊢
    simp only [extract_mk, getN_zero, getN_succ, Ok_some]
    have hk2 := tick_kept h.ok d.now
    have hF := (tick_counts (S := S) d.now).1
    have hle1 := E1.le
    have hle2 := k2.le
    have hgr : ∀ b, H1.next ≤ b → b < H2.next → ¬ gr fy H2 H3 b := fun b b1 b2 hh => by
      rcases hh with hh | hh
      · have := h.ra.lt b hh; omega
      · omega
    have hF3 : Frs ext H1 H3 (fun b => fx b ∨ gr fy H2 H3 b) fv (tick S d.now).2.1 := (F2.both hgr).kp k3 fun b b1 _ _ he => by omega
    refine hend fv gv _ _ (tick S d.now).1 H1 H3 fx (gr fy H2 H3) lv3 es3 ⟨c2.kp k3 fun b hb he => h.ncy (he ▸ hb), r3, hk2.ok, fun hh => ?_, fun hh => ?_, h.ncy⟩ hF3 V3 (by have := tick_len h.ok (now := d.now); omega) hF.len hle1 (by have := hk2.lost; omega) ?_
    · rcases hh with hh | hh
      · exact h.ncx hh
      · omega
    · rcases hh with hh | hh
      · exact h.nmb hh
      · omega
    · refine ((E1.mono fun _ _ h => h.elim).then k2 fun b hb hh => ?_).then k3 fun b hb hh => ?_
      · rcases hh with hh | hh
        · exact .inl hh
        · exact .inr (.inl hh)
      · exact .inr (.inr hh)

end Ev
end Go.Proofs.Ytglkgmomnbdkoaa

/- A script on both caches, and the law's own walk. -/
namespace Go.Proofs.Ytglkgmomnbdkoaa
open Go.ChangeShapes Go.WideShapes Go.ChangeAt Go.RowKit Go.Proofs Ev
namespace Ev
variable {W : World} {H : Heap}

theorem rdN_deed {b o : Nat} {d : Deed} {u : Value} (h : DeedX W b o d) (hu : (Z (extOf W)).ext b (o + 2) = some u) : rdN (Z (extOf W)) H ⟨b, o, some 0⟩ 9 = some (deedC d u) := by
  simp only [rdN, extN, h.do_, h.to, hu, h.op, h.fm, h.fi, h.tm, h.ti, h.now]
  rfl


theorem refS_new (mac ip : Int) : refS ⟨mac, ip, 0, [], 0⟩ = ⟨mac, ip, 0, [], 0⟩ := rfl

/-- One of a script's deeds, done on both. -/
theorem deed_ok {b o : Nat} {d : Deed} (h : DeedX W b o d) (hl : d.body.length ≤ 140737488355328) : ∃ u, (Z (extOf W)).ext b (o + 2) = some u ∧ DeedOk (extOf W) d u := by
  obtain ⟨u, hu, hbx, -⟩ := h.body
  exact ⟨u, hu, h.toR, h.arp, hbx.1, hbx.2, hl⟩

theorem c15 {mac ip : Int} (hmac : 0 ≤ mac ∧ mac < 18446744073709551616) (hip : 0 ≤ ip ∧ ip < 4294967296) {u : Value} {ds : List Deed} (hu : Script W u ds) (hl : ds.length ≤ maxLen) (hb : ∀ d ∈ ds, d.body.length ≤ 140737488355328) :
    C (Z (extOf W)) 15 [.int .u64 mac, .int .u32 ip, u] H fun r H' => (281474976710655 ≤ mac ∧ r = .tuple #[.pointer none, .pointer none, .bool true]) ∨
      (mac < 281474976710655 ∧ ∃ cx mb cy S, r = .tuple #[.pointer (some ⟨cx, 0, none⟩), .pointer (some ⟨cy, 0, none⟩), .bool true] ∧ PrAt (extOf W) H' cx mb cy S ∧ S.lost ≤ 4800) := by
  refine C_all fun Q hQ => ?_
  apply w15_ok rfl
  simp only [w15]
  have hlen : ∃ p cp, u = .slice p ds.length cp := by
    rcases hu with ⟨rfl, rfl⟩ | ⟨b, o, cp, rfl, -⟩
    · exact ⟨_, _, rfl⟩
    · exact ⟨_, _, rfl⟩
  refine C_mono (c9 mac ip hmac) ?_
  rintro _ H1 (⟨h5, rfl, -⟩ | ⟨h5, cx, mb, rfl, h1, E1⟩)
  · simp only [extract_mk, getN_zero, getN_succ, Ok_some]
    refine C_mono (c32 mac ip) ?_
    rintro _ H2 (⟨-, rfl, -⟩ | ⟨h6, -⟩)
    · simp only [extract_mk, getN_zero, getN_succ, Ok_some, bin_neq, decide_true, Bool.not_true, Br_false, eql_24, eql_45, Option.isNone_none, neq_4, beq_self_eq_true]
      intro P hP
      refine hP _ _ ?_
      simp only [neq_24, Option.isNone_none, Bool.not_true, Ok_some, Br_false]
      exact hQ _ _ (.inl ⟨h5, rfl⟩)
    · omega
  · simp only [extract_mk, getN_zero, getN_succ, Ok_some]
    refine C_mono (c32 mac ip) ?_
    rintro _ H2 (⟨h6, -, -⟩ | ⟨-, cy, lv, rfl, h2, E2⟩)
    · omega
    have ho := new_ok (mac := mac) (ip := ip) ⟨hmac.1, h5⟩ hip
    have hx2 := h1.kp E2 fun _ _ => id
    have hle := E2.le
    have hcx := h1.clt
    have hmb := h1.mlt
    have hcy : H1.next ≤ cy := h2.fc.1
    have hP2 : PrAt (extOf W) H2 cx mb cy ⟨mac, ip, 0, [], 0⟩ := ⟨_, _, lv, [], hx2, by rw [refS_new]; exact h2, ho, fun hh => by omega, fun hh => by omega, fun hh => by omega⟩
    simp only [extract_mk, getN_zero, getN_succ, Ok_some, bin_neq, decide_true, Bool.not_true, Br_false, eql_24, eql_45, Option.isNone_some, neq_4, beq_self_eq_true]
    intro P hP
    refine loop_up (min ds.length 150) (fun i vs H' => vs = [.int .i64 i] ∧ ∃ S, PrAt (extOf W) H' cx mb cy S ∧ S.lost ≤ 32 * i) ?_ ?_ (Nat.zero_le _) ⟨rfl, _, hP2, by simp⟩
    · rintro i _ H3 hi ⟨rfl, S, ⟨fx, fy, lv3, es3, h3⟩, hlost⟩ K
      refine hP _ _ ?_
      obtain ⟨p, cp, hue⟩ := hlen
      rcases hu with ⟨rfl, rfl⟩ | ⟨b, o, cp', rfl, hd⟩
      · simp at hi
      obtain ⟨d, hdi⟩ : ∃ d, ds[i]? = some d := ⟨ds[i]'(by omega), List.getElem?_eq_getElem _⟩
      have hx := hd i d hdi
      obtain ⟨ub, hub, hok⟩ := deed_ok hx (hb d (List.mem_of_getElem? hdi))
      simp only [neq_24, Option.isNone_some, Bool.not_false, Ok_some, Br_true, len_23, Ok2_some, bin_lss, Br_dec]
      refine ⟨fun _ => ⟨fun _ => ?_, fun h => absurd (by omega) h⟩, fun h => absurd (by omega) h⟩
      refine IA_deed (by omega) ?_
      rw [LdN_ptr, rdN_deed hx hub, Ok_some]
      refine C_mono (c20 h3 (by omega) hok) ?_
      rintro _ H4 ⟨rfl, ⟨S', h4, hl4⟩, -⟩
      simp only [un_not, Ok_some, Bool.not_true, Br_false, bin_add]
      rw [wrap_i64 (by omega)]
      exact K _ _ ⟨by simp, S', h4, by push_cast; omega⟩
    · rintro _ H3 ⟨rfl, S, h3, hlost⟩
      refine hP _ _ ?_
      obtain ⟨p, cp, rfl⟩ := hlen
      have hfin : Q (.tuple #[.pointer (some ⟨cx, 0, none⟩), .pointer (some ⟨cy, 0, none⟩), .bool true]) H3 := hQ _ _ (.inr ⟨h5, cx, mb, cy, S, rfl, h3, by omega⟩)
      simp only [neq_24, Option.isNone_some, Bool.not_false, Ok_some, Br_true, len_23, Ok2_some, bin_lss, Br_dec]
      exact ⟨fun h => ⟨fun h' => absurd h' (by omega), fun _ => hfin⟩, fun _ => hfin⟩

theorem c4 {mac ip : Int} (hmac : 0 ≤ mac ∧ mac < 18446744073709551616) (hip : 0 ≤ ip ∧ ip < 4294967296) {u : Value} {ds : List Deed} (hu : Script W u ds) (hl : ds.length ≤ maxLen) (hb : ∀ d ∈ ds, d.body.length ≤ 140737488355328) :
    C (Z (extOf W)) 4 [.int .u64 mac, .int .u32 ip, u] H fun r _ => r = .bool true := by
  refine C_all fun Q hQ => ?_
  apply w4_ok rfl
  simp only [w4]
  refine C_mono (c15 hmac hip hu hl hb) ?_
  rintro _ H1 (⟨-, rfl⟩ | ⟨-, cx, mb, cy, S, rfl, -, -⟩)
  · simp only [extract_mk, getN_zero, getN_succ, Ok_some]
    refine c14 ?_
    simp only [Br_true]
    exact hQ _ _ rfl
  · simp only [extract_mk, getN_zero, getN_succ, Ok_some]
    refine c14 ?_
    simp only [Br_true]
    exact hQ _ _ rfl

end Ev
end Go.Proofs.Ytglkgmomnbdkoaa

