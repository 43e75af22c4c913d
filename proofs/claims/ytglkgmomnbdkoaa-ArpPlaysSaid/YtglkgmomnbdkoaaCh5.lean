/- What a cache's calls do, and their contracts: Tick. -/
import Derived.Test.YtglkgmomnbdkoaaCh4
namespace Go.Proofs.Ytglkgmomnbdkoaa
namespace Ev
variable {ext : Nat → Nat → Option Value} {H : Heap}

def tickF (now : Int) (s : Ca × List (List Int)) (k : Int) : Ca × List (List Int) :=
  if (((fnd k s.1.all).getD en0).known = true ∧ 600 ≤ now - ((fnd k s.1.all).getD en0).at_) ∨ (((fnd k s.1.all).getD en0).known = false ∧ 10 ≤ now - ((fnd k s.1.all).getD en0).at_ ∧ 3 ≤ ((fnd k s.1.all).getD en0).tries) then
    ({ s.1 with lost := s.1.lost + ((fnd k s.1.all).getD en0).wait.length, all := del k s.1.all }, s.2)
  else if ((fnd k s.1.all).getD en0).known = false ∧ 10 ≤ now - ((fnd k s.1.all).getD en0).at_ then
    ({ s.1 with all := put k { (fnd k s.1.all).getD en0 with at_ := now, tries := ((fnd k s.1.all).getD en0).tries + 1 } s.1.all }, s.2 ++ [frameB 281474976710655 s.1.mac 2054 (arpB 1 s.1.mac s.1.ip 0 k)])
  else s

def tickB (S : Ca) (now : Int) : Ca × List (List Int) := (sortL (S.all.map (·.1))).foldl (tickF now) (S, [])

def tick (S : Ca) (now : Int) : Ca × List (List Int) × Int :=
  if (bgn S now).1 ≠ 0 then ((bgn S now).2, [], (bgn S now).1) else ((tickB (bgn S now).2 now).1, (tickB (bgn S now).2 now).2, 0)

theorem fnd_put {j k : Int} {e : En} : ∀ {l : List (Int × En)}, fnd j (put k e l) = if j = k then some e else fnd j l
  | [] => by simp only [put, fnd]
  | a :: l => by
    simp only [put]
    by_cases hk : k = a.1
    · simp only [hk, if_true, fnd]
      by_cases hj : j = a.1 <;> simp [hj]
    · simp only [hk, if_false, fnd, fnd_put (l := l)]
      by_cases hj : j = a.1
      · simp [hj, Ne.symm hk]
      · simp [hj]

theorem fnd_del {j k : Int} (h : j ≠ k) : ∀ {l : List (Int × En)}, fnd j (del k l) = fnd j l
  | [] => rfl
  | a :: l => by
    simp only [del]
    by_cases hk : k = a.1
    · simp only [hk, if_true, fnd]
      rw [if_neg (by rw [← hk]; exact h)]
    · simp only [hk, if_false, fnd, fnd_del h (l := l)]

theorem fnd_del_self {k : Int} : ∀ {l : List (Int × En)}, (l.map (·.1)).Nodup → fnd k (del k l) = none
  | [], _ => rfl
  | a :: l, hn => by
    simp only [List.map_cons, List.nodup_cons] at hn
    simp only [del]
    by_cases hk : k = a.1
    · simp only [hk, if_true]; exact fnd_none.2 hn.1
    · simp only [hk, if_false, fnd, fnd_del_self hn.2]

theorem fnd_some {k : Int} {l : List (Int × En)} : (fnd k l).isSome ↔ k ∈ l.map (·.1) := by
  cases hf : fnd k l with
  | none => simpa using fnd_none.1 hf
  | some e => simpa using ⟨e, fnd_mem hf⟩

/-- What holds while neighbours are gone through. -/
structure TkI (S0 : Ca) (ks : List Int) (i : Nat) (s : Ca × List (List Int)) : Prop where
  ok : CaOk s.1
  mac : s.1.mac = S0.mac
  ip : s.1.ip = S0.ip
  last : s.1.last = S0.last
  lost : s.1.lost ≤ S0.lost + 4 * i
  len : s.2.length ≤ i
  left : ∀ k ∈ ks.drop i, (fnd k s.1.all).isSome

theorem TkI.step {S0 : Ca} {ks : List Int} {i : Nat} {s : Ca × List (List Int)} {now : Int} (h : TkI S0 ks i s) (hn : 0 ≤ now ∧ now ≤ 1099511627776) (hnd : ks.Nodup) {k : Int} (hk : ks[i]? = some k) : TkI S0 ks (i + 1) (tickF now s k) := by
  have hi : i < ks.length := by
    rcases Nat.lt_or_ge i ks.length with h' | h'
    · exact h'
    · rw [List.getElem?_eq_none h'] at hk; cases hk
  have hkk : ks[i] = k := by rw [List.getElem?_eq_getElem hi] at hk; exact Option.some.inj hk
  have hd : ks.drop i = k :: ks.drop (i + 1) := by rw [List.drop_eq_getElem_cons hi, hkk]
  have hnd' : (ks.drop i).Nodup := hnd.sublist (List.drop_sublist _ _)
  rw [hd] at hnd'
  have hne : ∀ j ∈ ks.drop (i + 1), j ≠ k := fun j hj e => (List.nodup_cons.1 hnd').1 (e ▸ hj)
  have hfk := h.left k (by rw [hd]; exact List.mem_cons_self)
  have hen := h.ok.findD k
  unfold tickF
  split
  · refine ⟨?_, h.mac, h.ip, h.last, ?_, Nat.le_succ_of_le h.len, fun j hj => ?_⟩
    · have h2 := h.ok.del k
      exact ⟨h2.mac, h2.ip, h2.last, by have := h.ok.lost; simp; omega, h2.len, h2.keys, h2.rng, h2.ens⟩
    · have := hen.wait; have := h.lost; simp; omega
    · show (fnd j (del k s.1.all)).isSome
      rw [fnd_del (hne j hj)]
      exact h.left j (by rw [hd]; exact List.mem_cons_of_mem _ hj)
  · rename_i hc
    split
    · rename_i hq
      refine ⟨h.ok.put ?_ ⟨hen.mac, hn, ?_, hen.wait, hen.body, hen.known⟩ (.inl hfk), h.mac, h.ip, h.last, by have := h.lost; simp; omega, by have := h.len; simp; omega, fun j hj => ?_⟩
      · obtain ⟨e, he⟩ := Option.isSome_iff_exists.1 hfk
        exact h.ok.rng _ (fnd_mem he)
      · have := hen.tries
        have : ¬ 3 ≤ ((fnd k s.1.all).getD en0).tries := fun h3 => hc (.inr ⟨hq.1, hq.2, h3⟩)
        simp only
        omega
      · show (fnd j (put k _ s.1.all)).isSome
        rw [fnd_put, if_neg (hne j hj)]
        exact h.left j (by rw [hd]; exact List.mem_cons_of_mem _ hj)
    · exact ⟨h.ok, h.mac, h.ip, h.last, by have := h.lost; omega, by have := h.len; omega, fun j hj => h.left j (by rw [hd]; exact List.mem_cons_of_mem _ hj)⟩

theorem nodup_sortL {l : List Int} (h : l.Nodup) : (sortL l).Nodup := (sortL_perm l).nodup_iff.2 h

theorem TkI.init {S : Ca} (h : CaOk S) : TkI S (sortL (S.all.map (·.1))) 0 (S, []) :=
  ⟨h, rfl, rfl, rfl, by simp, by simp, fun k hk => fnd_some.2 ((sortL_perm _).mem_iff.1 (by simpa using hk))⟩

theorem TkI.take {S : Ca} (h : CaOk S) {now : Int} (hn : 0 ≤ now ∧ now ≤ 1099511627776) : ∀ i, i ≤ (sortL (S.all.map (·.1))).length → TkI S (sortL (S.all.map (·.1))) i (((sortL (S.all.map (·.1))).take i).foldl (tickF now) (S, []))
  | 0, _ => by simpa using TkI.init h
  | i + 1, hi => by
    have ih := TkI.take h hn i (by omega)
    have hk : (sortL (S.all.map (·.1)))[i]? = some (sortL (S.all.map (·.1)))[i] := List.getElem?_eq_getElem (by omega)
    have := ih.step hn (nodup_sortL h.keys) hk
    rw [List.take_add_one, hk, List.foldl_append]
    exact this

theorem tickB_ok {S : Ca} (h : CaOk S) {now : Int} (hn : 0 ≤ now ∧ now ≤ 1099511627776) : CaOk (tickB S now).1 ∧ (tickB S now).1.mac = S.mac ∧ (tickB S now).1.ip = S.ip ∧ (tickB S now).1.last = S.last ∧ (tickB S now).1.lost ≤ S.lost + 32 := by
  have := TkI.take h hn _ (Nat.le_refl _)
  rw [List.take_length] at this
  refine ⟨this.ok, this.mac, this.ip, this.last, ?_⟩
  have h1 := this.lost
  have h2 : (sortL (S.all.map (·.1))).length ≤ 8 := by rw [(sortL_perm _).length_eq]; simpa using h.len
  unfold tickB
  omega

/-- Tick's contract. -/
theorem c12 {fp : Nat → Prop} {c mb : Nat} {S : Ca} (h : CAt ext H fp c mb S) (ho : CaOk S) (hl : S.lost < 4611686018427387904) (now : Int) :
    C (Z ext) 12 [.pointer (some ⟨c, 0, none⟩), .int .i64 now] H fun r H' => ∃ fv, r = .tuple #[fv, .int .i64 (tick S now).2.2] ∧ CAt ext H' fp c mb (tick S now).1 ∧ Frs ext H H' fp fv (tick S now).2.1 ∧
      Kp (fun b => b = c ∨ b = mb) H H' := by
  refine C_all fun Q hQ => ?_
  apply w12_ok rfl
  simp only [w12]
  refine C_mono (c23 h now) ?_
  rintro _ H1 ⟨rfl, h1, k1, n1⟩
  have ho1 := bgn_ok ho now
  have hl1 := (bgn_lost S now).1
  have k01 : Kp (fun b => b = c ∨ b = mb) H H1 := k1.mono fun _ _ h => .inl h
  have hQ' : ∀ (fv : Value) (e : Int) (A : Ca) (fs : List (List Int)) (H' : Heap), tick S now = (A, fs, e) → CAt ext H' fp c mb A → Frs ext H H' fp fv fs → Kp (fun b => b = c ∨ b = mb) H H' → Q (.tuple #[fv, .int .i64 e]) H' := by
    intro fv e A fs H' hs a1 a2 a3
    rw [hs] at hQ
    exact hQ _ _ ⟨fv, rfl, a1, a2, a3⟩
  simp only [bin_neq, Ok_some, Br_ndec]
  refine ⟨fun he => ?_, fun he => ?_⟩
  · exact hQ' _ _ _ _ _ (by unfold tick; rw [if_pos he]) h1 (.nil fp) k01
  have htick : tick S now = ((tickB (bgn S now).2 now).1, (tickB (bgn S now).2 now).2, 0) := by unfold tick; rw [if_neg (by simp [he])]
  rw [htick] at hQ'
  have hnow := bgn_rng he
  clear hQ htick
  generalize (bgn S now).2 = S1 at h1 ho1 hl1 hQ'
  refine C_mono (c30 h1 ho1) ?_
  rintro r H2 ⟨o2, f2, E2⟩
  have hkk : ∀ ks, sortL (S1.all.map (·.1)) = ks → ks.length = S1.all.length ∧ ks.Nodup := by
    rintro _ rfl
    exact ⟨by rw [(sortL_perm _).length_eq]; simp, nodup_sortL ho1.keys⟩
  have hI := fun i hi => TkI.take ho1 hnow i hi
  have htb : tickB S1 now = (sortL (S1.all.map (·.1))).foldl (tickF now) (S1, []) := rfl
  generalize hks : sortL (S1.all.map (·.1)) = ks at o2 hI htb
  obtain ⟨hlen, hnd⟩ := hkk ks hks
  have hl8 := ho1.len
  obtain ⟨p, cp, rfl⟩ := o2.len
  simp only [len_74, Ok2_some]
  intro P hP
  have h2 := h1.kp E2 (fun _ _ => id)
  have k02 : Kp (fun b => b = c ∨ b = mb) H H2 := k01.then E2 fun _ _ h => h.elim
  have hle := k01.le
  refine loop_up ks.length (fun i vs H' => ∃ x, vs = [x, .int .i64 i] ∧ CAt ext H' fp c mb ((ks.take i).foldl (tickF now) (S1, [])).1 ∧ Acc H2 H' fp x ((ks.take i).foldl (tickF now) (S1, [])).2 ∧ Kp (fun b => b = c ∨ b = mb) H2 H') ?_ ?_ (Nat.zero_le _)
    ⟨_, rfl, h2, .nil _ _ _, .refl _ _⟩
  · rintro i _ H3 hi ⟨x, rfl, h3, hA, k3⟩ k
    refine hP _ _ _ ?_
    have hIi := hI i (by omega)
    obtain ⟨ky, hky⟩ : ∃ ky, ks[i]? = some ky := ⟨ks[i], List.getElem?_eq_getElem hi⟩
    have hstep : (ks.take (i + 1)).foldl (tickF now) (S1, []) = tickF now ((ks.take i).foldl (tickF now) (S1, [])) ky := by
      rw [List.take_add_one, hky, List.foldl_append]; rfl
    rw [hstep] at k
    clear hstep
    generalize (ks.take i).foldl (tickF now) (S1, []) = s at hIi h3 hA k
    have hdr : ky ∈ ks.drop i := by
      rw [List.getElem?_eq_getElem hi] at hky
      rw [List.drop_eq_getElem_cons hi, Option.some.inj hky]
      exact List.mem_cons_self
    have hfk := hIi.left ky hdr
    have hen := hIi.ok.findD ky
    have hkr : 0 ≤ ky ∧ ky < 4294967296 := by
      obtain ⟨e, he⟩ := Option.isSome_iff_exists.1 hfk
      exact hIi.ok.rng _ (fnd_mem he)
    rcases o2.2 with ⟨h0, -⟩ | ⟨sb, hsb, hsl, hsg⟩
    · omega
    cases hsb
    have hsbf : ¬ (sb = c ∨ sb = mb) := by
      have := f2 sb (by simp [ob])
      have := h1.clt
      have := h1.mlt
      omega
    have hsg3 := (k3.get sb hsl hsbf).trans hsg
    simp only [bin_lss, Ok_some, Br_dec]
    refine ⟨fun _ => ?_, fun h => absurd (by omega) h⟩
    simp only [IA_slice]
    refine ⟨by omega, ?_⟩
    have e1 : 0 + (i : Int).toNat * 1 = i := by omega
    have hgx : (ks.map (Value.int .u32))[i]? = some (.int .u32 ky) := by simp [hky]
    obtain ⟨wv, hw, -, hlk⟩ := h3.look ky
    obtain ⟨wvs, pw, cw, rfl, hwc, hwB⟩ := hw.ex
    simp only [e1, Ld1_ptr, rd1_own hsg3, getN_eq, hgx, Ok_some, nilCheck_ptr, FA_ptr, rd1_own h3.cell, cacheC, Al_eq]
    simp only [Nat.zero_add, List.getElem?_cons_succ, List.getElem?_cons_zero, Ok_some, hlk]
    refine new_st rfl (by simp [enV_cells]) (by simp [enV_cells]) ?_
    intro H4 n4 g4 E4
    have h4 := h3.kp E4 (fun _ _ => id)
    have hw4 := hw.kp E4 (fun _ _ => id) (fun _ h => h)
    have hA4 := hA.kp E4 (fun _ _ _ _ => id)
    simp only [enV_cells] at g4
    have hinc : wrapF .i64 ((i : Int) + 1) = ((i + 1 : Nat) : Int) := by rw [wrap_i64 (by omega)]; simp
    have hsub : wrapF .i64 (now - ((fnd ky s.1.all).getD en0).at_) = now - ((fnd ky s.1.all).getD en0).at_ := wrap_i64 (by have := hen.at_; omega)
    have k24 : Kp (fun b => b = c ∨ b = mb) H2 H4 := k3.then E4 fun _ _ h => h.elim
    have hlvne : ∀ b, fp b → b ≠ H3.next := fun b hb => by have := h3.lt b hb; omega
    have hle23 := k3.le
    simp only [rd1_own g4, List.getElem?_cons_succ, List.getElem?_cons_zero, getN_eq, Ok_some, bin_sub, hsub]
    intro P4 hP4
    have hmain : ∀ b : Bool, (b = true ↔ ((((fnd ky s.1.all).getD en0).known = true ∧ 600 ≤ now - ((fnd ky s.1.all).getD en0).at_) ∨ (((fnd ky s.1.all).getD en0).known = false ∧ 10 ≤ now - ((fnd ky s.1.all).getD en0).at_ ∧ 3 ≤ ((fnd ky s.1.all).getD en0).tries))) → P4 [.bool b] H4 := by
      intro b hb
      refine hP4 _ _ ?_
      simp only [rd1_own g4, rd1_own h4.cell, cacheC, List.getElem?_cons_succ, List.getElem?_cons_zero, getN_eq, Ok_some, Br_bool, len_34, Ok2_some, bin_add, un_not, bin_geq, hinc, Bool.not_eq_true', Bool.not_eq_false', decide_eq_true_eq, decide_eq_false_iff_not]
      refine ⟨fun hbt => ?_, fun hbf => ⟨fun hkn => ⟨fun h10 => ?_, fun h10 => ?_⟩, fun hkn => ?_⟩⟩
      · have hfg := hb.1 hbt
        have htf : tickF now s ky = ({ s.1 with lost := s.1.lost + ((fnd ky s.1.all).getD en0).wait.length, all := del ky s.1.all }, s.2) := by unfold tickF; rw [if_pos hfg]
        rw [htf] at k
        rw [wrap_i64 (by have := hIi.lost; have := hIi.ok.lost; have := hen.wait; omega)]
        refine st_one' h4.cell (by simp) (by simp [cacheC]) ?_
        intro H5 n5 g5 k5
        have h5 := h4.cells' (last := s.1.last) (lost := s.1.lost + ((fnd ky s.1.all).getD en0).wait.length) k5 g5
        obtain ⟨H6, e6, c6, k6, n6⟩ := h5.delete ky
        simp only [rd1_own h5.cell, cacheC, List.getElem?_cons_succ, List.getElem?_cons_zero, getN_eq, Ok_some, e6, Ok2_some]
        refine k _ _ ⟨x, rfl, c6, (hA4.kp k5 fun b a1 _ a3 hh => ?_).kp k6 fun b a1 _ a3 hh => ?_, (k24.then k5 fun _ _ h => .inl h).then k6 fun _ _ h => .inr h⟩
        · exact a3 (by rw [show b = c from hh]; exact h.fc)
        · exact a3 (by rw [show b = mb from hh]; exact h.fm)
      · -- asked again
        have hnf : ¬ ((((fnd ky s.1.all).getD en0).known = true ∧ 600 ≤ now - ((fnd ky s.1.all).getD en0).at_) ∨ (((fnd ky s.1.all).getD en0).known = false ∧ 10 ≤ now - ((fnd ky s.1.all).getD en0).at_ ∧ 3 ≤ ((fnd ky s.1.all).getD en0).tries)) :=
          fun hh => by rw [hb.2 hh] at hbf; cases hbf
        have htf : tickF now s ky = ({ s.1 with all := put ky { (fnd ky s.1.all).getD en0 with at_ := now, tries := ((fnd ky s.1.all).getD en0).tries + 1 } s.1.all }, s.2 ++ [frameB 281474976710655 s.1.mac 2054 (arpB 1 s.1.mac s.1.ip 0 ky)]) := by
          unfold tickF; rw [if_neg hnf, if_pos ⟨hkn, h10⟩]
        rw [htf] at k
        rw [wrap_i64 (by have := hen.tries; omega)]
        refine st_one' g4 (by simp) (by simp) ?_
        intro H5 n5 g5 k5
        simp only [List.set_cons_succ, List.set_cons_zero] at g5
        refine st_one' g5 (by simp) (by simp) ?_
        intro H6 n6 g6 k6
        simp only [List.set_cons_succ, List.set_cons_zero] at g6
        have k46 : Kp (fun b => b = H3.next) H4 H6 := k5.trans k6
        have h6 := h4.kp k46 (fun b hb' he => hlvne b hb' he)
        have hw6 := hw4.kp k46 (fun b hb' he => hlvne b hb'.1 he) (fun _ h => h)
        have hA6 : Acc H2 H6 fp x s.2 := hA.kp ((E4.mono fun _ _ h => h.elim).then k46 fun _ _ h => h) fun b a1 a2 a3 he => by have : b = H3.next := he; omega
        have hrd : rdN (Tab.ctx ext spA) H6 ⟨H3.next, 0, none⟩ 5 = some [.bool ((fnd ky s.1.all).getD en0).known, .int .u64 ((fnd ky s.1.all).getD en0).mac, .int .i64 now, .int .i64 (((fnd ky s.1.all).getD en0).tries + 1), .slice pw ((fnd ky s.1.all).getD en0).wait.length cw] := by
          rw [rdN_own g6]; rfl
        obtain ⟨H7, e7, c7, k7, n7⟩ := h6.update (k := ky) (e := { (fnd ky s.1.all).getD en0 with at_ := now, tries := ((fnd ky s.1.all).getD en0).tries + 1 }) hw6
        have e7' : mapUpdate (Tab.ctx ext spA) H6 62 (.map (some mb)) (.int .u32 ky) (.agg ⟨[.bool ((fnd ky s.1.all).getD en0).known, .int .u64 ((fnd ky s.1.all).getD en0).mac, .int .i64 now, .int .i64 (((fnd ky s.1.all).getD en0).tries + 1), .slice pw ((fnd ky s.1.all).getD en0).wait.length cw]⟩) = some H7 := e7
        simp only [rd1_own h6.cell, cacheC, List.getElem?_cons_succ, List.getElem?_cons_zero, getN_eq, Ok_some, LdN_ptr, hrd, e7']
        refine C_mono (c26 c7.cell c7.clt hIi.ok.mac hIi.ok.ip hkr) ?_
        rintro f H8 ⟨f8, E8⟩
        have hA7 := hA6.kp k7 fun b a1 _ a3 hh => a3 (by rw [show b = mb from hh]; exact h.fm)
        have hbkf : ∀ b, bk f = some b → H7.next ≤ b := fun b hb' => (f8.bk hb').1
        have k27 : Kp (fun b => b = c ∨ b = mb) H2 H7 := (k24.then k46 fun b hb' he => by omega).then k7 fun _ _ h => .inr h
        have hle27 := k27.le
        refine push (ext := ext) (hA7.kp E8 fun _ _ _ _ => id) (f8.down (by omega)) (fun b hb' => ⟨fun hh => by have := c7.lt b hh; have := hbkf b hb'; omega, fun hh => ?_⟩) (fun b hb' => by have := c7.lt b hb'; have := E8.le; omega) (by have := hIi.len; omega) ?_
        · obtain ⟨vs2, -, a2, -⟩ := hA7
          have := (a2 b hh).2.2.1
          have := hbkf b hb'
          omega
        intro v' H9 hA9 k9
        have hSx : ∀ b, ob x = some b → H2.next ≤ b ∧ ¬ fp b := by
          intro b hs
          obtain ⟨vs2, o2, a2, -⟩ := hA
          have hbk : bk x = some b := by
            rcases o2.2 with ⟨h0, q, rfl⟩ | ⟨d, rfl, -, -⟩
            · cases q <;> simp [ob, unk] at hs
            · simpa [ob, bk] using hs
          exact ⟨(a2 b hbk).2.1, (a2 b hbk).2.2.2⟩
        refine k _ _ ⟨v', rfl, (c7.kp E8 fun _ _ => id).kp k9 (fun b hb' hs => (hSx b hs).2 hb'), hA9, (k27.then E8 fun _ _ h => h.elim).then k9 fun b hb' hs => ?_⟩
        have := (hSx b hs).1
        omega
      · have hnf : ¬ ((((fnd ky s.1.all).getD en0).known = true ∧ 600 ≤ now - ((fnd ky s.1.all).getD en0).at_) ∨ (((fnd ky s.1.all).getD en0).known = false ∧ 10 ≤ now - ((fnd ky s.1.all).getD en0).at_ ∧ 3 ≤ ((fnd ky s.1.all).getD en0).tries)) :=
          fun hh => by rw [hb.2 hh] at hbf; cases hbf
        have htf : tickF now s ky = s := by unfold tickF; rw [if_neg hnf, if_neg (fun hh => h10 hh.2)]
        rw [htf] at k
        exact k _ _ ⟨x, rfl, h4, hA4, k24⟩
      · have hnf : ¬ ((((fnd ky s.1.all).getD en0).known = true ∧ 600 ≤ now - ((fnd ky s.1.all).getD en0).at_) ∨ (((fnd ky s.1.all).getD en0).known = false ∧ 10 ≤ now - ((fnd ky s.1.all).getD en0).at_ ∧ 3 ≤ ((fnd ky s.1.all).getD en0).tries)) :=
          fun hh => by rw [hb.2 hh] at hbf; cases hbf
        have htf : tickF now s ky = s := by unfold tickF; rw [if_neg hnf, if_neg (fun hh => by rw [hkn] at hh; exact absurd hh.1 (by simp))]
        rw [htf] at k
        exact k _ _ ⟨x, rfl, h4, hA4, k24⟩
    simp only [rd1_own g4, List.getElem?_cons_succ, List.getElem?_cons_zero, getN_eq, Ok_some, Br_bool, bin_geq, un_not, Bool.not_eq_true', Bool.not_eq_false', decide_eq_true_eq, decide_eq_false_iff_not]
    refine ⟨fun hkn => ⟨fun h6 => ?_, fun h6 => ⟨fun hh => ?_, fun hh => ?_⟩⟩, fun hkn => ⟨fun hh => ⟨fun h10 => ?_, fun h10 => ?_⟩, fun hh => ?_⟩⟩
    · exact hmain _ (by simp [hkn, h6])
    · rw [hkn] at hh; cases hh
    · exact hmain _ (by simp [hkn, h6])
    · exact hmain _ (by simp [hkn, h10])
    · exact hmain _ (by simp [hkn, h10])
    · rw [hkn] at hh; cases hh
  · rintro _ H3 ⟨x, rfl, h3, hA, k3⟩
    refine hP _ _ _ ?_
    rw [List.take_length, ← htb] at h3 hA
    simp only [bin_lss, Ok_some, Br_dec]
    refine ⟨fun h => absurd h (by omega), fun _ => ?_⟩
    exact hQ' x _ _ _ _ rfl h3 (hA.down (by have := k02.le; omega)).frs (k02.trans k3)

end Ev
end Go.Proofs.Ytglkgmomnbdkoaa
