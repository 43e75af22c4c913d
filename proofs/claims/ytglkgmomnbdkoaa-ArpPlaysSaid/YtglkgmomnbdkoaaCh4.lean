/- What a cache's calls do, and their contracts: Take. -/
import Derived.Test.YtglkgmomnbdkoaaCh3
namespace Go.Proofs.Ytglkgmomnbdkoaa
namespace Ev
variable {ext : Nat → Nat → Option Value} {H : Heap}

theorem extN_get {X : Ctx} {b : Nat} : ∀ {n o : Nat} {vs : List Value}, extN X b o n = some vs → ∀ {i : Nat}, i < n → X.ext b (o + i) = vs[i]?
  | 0, o, vs, h, i, hi => absurd hi (by omega)
  | n + 1, o, vs, h, i, hi => by
    simp only [extN] at h
    split at h
    · rename_i v r h1 h2
      cases h
      cases i with
      | zero => simpa using h1
      | succ i => have := extN_get h2 (i := i) (by omega); rw [show o + (i + 1) = o + 1 + i by omega, this]; simp
    · cases h

/-- One of cells that are read together. -/
theorem rd1_rdN {X : Ctx} {b o n : Nat} {s : Option Nat} {vs : List Value} (h : rdN X H ⟨b, o, s⟩ n = some vs) {i : Nat} (hi : i < n) : rd1 X H ⟨b, o + i, s⟩ = vs[i]? := by
  unfold rdN at h
  unfold rd1
  cases s with
  | none =>
    simp only at h ⊢
    split at h
    · rename_i l e hg
      obtain ⟨rfl, hl⟩ := cutN_eq h
      rw [getN_eq, List.getElem?_take_of_lt hi, List.getElem?_drop]
    · cases h
  | some s =>
    cases s with
    | zero => exact extN_get h hi
    | succ s => cases h

theorem rd1_cellsAt {X : Ctx} {a : Addr} {n c : Nat} {vs : List Value} (h : cellsAt X H n (.slice (some a) n c) = some vs) {i : Nat} (hi : i < n) : rd1 X H ⟨a.block, a.off + i, a.spot⟩ = vs[i]? := by
  rw [cellsAt_some (by omega)] at h
  exact rd1_rdN h hi

/-- Frames that are gathered. -/
def Acc (H0 H : Heap) (fp : Nat → Prop) (x : Value) (fs : List (List Int)) : Prop :=
  ∃ vs, Own H x 1 fs.length vs 29 ∧ (∀ b, bk x = some b → ob x = some b ∧ H0.next ≤ b ∧ b < H.next ∧ ¬ fp b) ∧ FrL H0 H fp (bk x) vs fs

theorem Acc.nil (H0 H : Heap) (fp : Nat → Prop) : Acc H0 H fp (.slice none 0 0) [] := ⟨[], .nil _ _ _ _, by simp [bk], trivial⟩

theorem FrL.kp {H0 : Heap} {fp S : Nat → Prop} {o o' : Option Nat} {H' : Heap} (hk : Kp S H H') (hS : ∀ b, H0.next ≤ b → b < H.next → ¬ fp b → o ≠ some b → ¬ S b) (ho : ∀ b, b < H.next → o ≠ some b → o' ≠ some b) : ∀ {vs : List Value} {fs : List (List Int)}, FrL H0 H fp o vs fs → FrL H0 H' fp o' vs fs
  | [], [], _ => trivial
  | v :: vs, f :: fs, h => by
    obtain ⟨⟨h1, h2⟩, h3⟩ := h
    have h4 := h1
    obtain ⟨b, hv, hb1, hb2, hb3⟩ := h4
    have hbk : bk v = some b := by rw [hv]; rfl
    obtain ⟨h5, h6⟩ := h2 b hbk
    refine ⟨⟨⟨b, hv, hb1, Nat.lt_of_lt_of_le hb2 hk.le, by rw [hk.get b hb2 (hS b hb1 hb2 h5 h6), hb3]⟩, fun c hc => ?_⟩, FrL.kp hk hS ho h3⟩
    rw [hbk] at hc; cases hc
    exact ⟨h5, ho b hb2 h6⟩
  | [], _ :: _, h => h.elim
  | _ :: _, [], h => h.elim

theorem FrL.append {H0 : Heap} {fp : Nat → Prop} {o : Option Nat} : ∀ {vs us : List Value} {fs gs : List (List Int)}, FrL H0 H fp o vs fs → FrL H0 H fp o us gs → FrL H0 H fp o (vs ++ us) (fs ++ gs)
  | [], _, [], _, _, h => h
  | _ :: _, _, _ :: _, _, h, h' => ⟨h.1, FrL.append h.2 h'⟩
  | [], _, _ :: _, _, h, _ => h.elim
  | _ :: _, _, [], _, h, _ => h.elim

theorem Acc.kp {H0 H' : Heap} {fp S : Nat → Prop} {x : Value} {fs : List (List Int)} (h : Acc H0 H fp x fs) (hk : Kp S H H') (hS : ∀ b, H0.next ≤ b → b < H.next → ¬ fp b → ¬ S b) : Acc H0 H' fp x fs := by
  obtain ⟨vs, h1, h2, h3⟩ := h
  refine ⟨vs, h1.kp hk (fun b hb => ?_), fun b hb => ?_, h3.kp hk (fun b a1 a2 a3 _ => hS b a1 a2 a3) fun _ _ h => h⟩
  · have : bk x = some b := by
      rcases h1.2 with ⟨h0, q, rfl⟩ | ⟨d, rfl, -, -⟩
      · cases q <;> simp [ob, unk] at hb
      · simpa [ob, bk] using hb
    obtain ⟨-, a1, a2, a3⟩ := h2 b this
    exact hS b a1 a2 a3
  · obtain ⟨a0, a1, a2, a3⟩ := h2 b hb
    exact ⟨a0, a1, Nat.lt_of_lt_of_le a2 hk.le, a3⟩

theorem Acc.frs {H0 : Heap} {fp : Nat → Prop} {x : Value} {fs : List (List Int)} (h : Acc H0 H fp x fs) : Frs ext H0 H fp x fs := by
  obtain ⟨vs, h1, h2, h3⟩ := h
  obtain ⟨p, c, e⟩ := h1.len
  have := h1.cells (X := Z ext)
  rw [Nat.mul_one] at this
  exact ⟨⟨vs, p, c, e, this, h3⟩, fun b hb => by obtain ⟨-, a1, a2, a3⟩ := h2 b hb; exact ⟨⟨a1, a2⟩, a3⟩⟩

/-- One more frame is gathered. -/
theorem push {H0 : Heap} {fp : Nat → Prop} {x f : Value} {fs : List (List Int)} {fb : List Int} {K : Value → Heap → Prop} (h : Acc H0 H fp x fs) (hf : Fr H0 H f fb) (hff : ∀ b, bk f = some b → ¬ fp b ∧ bk x ≠ some b) (hfp : ∀ b, fp b → b < H.next) (hl : fs.length ≤ 1000)
    (k : ∀ v' H', Acc H0 H' fp v' (fs ++ [fb]) → Kp (fun b => ob x = some b) H H' → K v' H') :
    Ok2 (buildSlice (Z ext) H 34 1 [(0, f)]) fun v H1 => Ok2 (builtin (Z ext) H1 .append [34, 34] [x, v]) K := by
  obtain ⟨vs, h1, h2, h3⟩ := h
  have hfe := hf
  obtain ⟨b, hfv, hb1, hb2, hb3⟩ := hfe
  have hbk : bk f = some b := by rw [hfv]; rfl
  rw [bsl_34_1 f (by rw [hfv]; simp), Ok2_some]
  have E1 : Ext H (H.alloc (.cells [f] 29)) := .alloc _ _ _
  obtain ⟨v', H', e', o', k', hob⟩ := app34 (ext := ext) (h1.kp E1 (fun _ _ => id)) (xs := [f]) (x := .slice (some ⟨H.next, 0, none⟩) 1 1) (nx := 1) ⟨_, _, rfl⟩ (by rw [cellsAt_own (Heap.get_alloc_self _ _) (by simp)]; rfl) (by rw [hfv]; simp) rfl (by omega)
  rw [e', Ok2_some]
  rcases hob with ⟨-, -, -, h0⟩ | ⟨-, n', -, rfl⟩
  · cases h0
  have hob : ∀ c, ob x = some c → bk x = some c := by
    intro c hb
    rcases h1.2 with ⟨h0, q, rfl⟩ | ⟨d, rfl, -, -⟩
    · cases q <;> simp [ob, unk] at hb
    · simpa [ob, bk] using hb
  have hle : H0.next ≤ H.next := by omega
  have hk : Kp (fun b => ob x = some b) H H' := (E1.mono fun _ _ h => h.elim).then k' fun _ _ h => h
  refine k _ _ ⟨vs ++ [f], by simpa using o', fun c hc => ?_, ?_⟩ hk
  · simp [bk] at hc; subst hc
    exact ⟨by simp [ob], by omega, by rw [n']; simp, fun hh => by have := hfp _ hh; omega⟩
  · have hbk' : bk (.slice (some ⟨(H.alloc (.cells [f] 29)).next, 0, none⟩) (fs.length + 1) (unk + 1)) = some (H.next + 1) := rfl
    rw [hbk']
    refine (FrL.kp hk (fun c a1 a2 a3 a4 hh => a4 (hob c hh)) (fun c hc _ => ?_) h3).append ⟨⟨⟨b, hfv, hb1, Nat.lt_of_lt_of_le hb2 hk.le, ?_⟩, fun c hc => ?_⟩, trivial⟩
    · intro e; cases e; omega
    · rw [hk.get b hb2 (fun hh => (hff b hbk).2 (hob b hh)), hb3]
    · rw [hbk] at hc; cases hc
      exact ⟨(hff b hbk).1, by intro e; cases e; omega⟩

/-! Take -/
structure Ar where
  op : Int
  fm : Int
  fi : Int
  tm : Int
  ti : Int

def Ar.cells (a : Ar) : List Value := [.int .i64 a.op, .int .u64 a.fm, .int .u32 a.fi, .int .u64 a.tm, .int .u32 a.ti]

structure ArOk (a : Ar) : Prop where
  fm : 0 ≤ a.fm ∧ a.fm < 18446744073709551616
  fi : 0 ≤ a.fi ∧ a.fi < 4294967296
  ti : 0 ≤ a.ti ∧ a.ti < 4294967296

def learn (S : Ca) (a : Ar) (now : Int) : Ca := { S with all := put a.fi ⟨true, a.fm, now, 0, []⟩ S.all }

def takeL (S : Ca) (a : Ar) (now : Int) : Ca × List (List Int) :=
  match fnd a.fi S.all with
  | some e => (learn S a now, e.wait.map (frameB a.fm S.mac 2048))
  | none => if a.ti = S.ip then (if (roomP S).1 = true then (learn (roomP S).2 a now, []) else ((roomP S).2, [])) else (S, [])

def takeB (S : Ca) (a : Ar) (now : Int) : Ca × List (List Int) × Int :=
  if a.fi = S.ip ∨ 281474976710655 ≤ a.fm then (S, [], 12)
  else ((takeL S a now).1, (takeL S a now).2 ++ (if a.op = 1 ∧ a.ti = S.ip then [frameB a.fm S.mac 2054 (arpB 2 S.mac S.ip a.fm a.fi)] else []), 0)

def take (S : Ca) (a : Ar) (now : Int) : Ca × List (List Int) × Int :=
  if (bgn S now).1 ≠ 0 then ((bgn S now).2, [], (bgn S now).1) else takeB (bgn S now).2 a now

def tkS (X : Ctx) (v10_83 v4_1 a0 a2 : Value) (P : List Value → Heap → Prop) (H_86 : Heap) : Prop :=
 FA v10_83 4 fun v56_91 =>
 Ld1 X H_86 v56_91 fun v57_92 =>
 Ok2 (builtin X H_86 .len [34] [v57_92]) fun v58_93 H_94 =>
 ∀ P_96 : List Value → Heap → Prop, (∀ x9_97 x59_98 : Value, ∀ H_99,
 (Ok (bin X .lss 3 x59_98 v58_93) fun v60_100 =>
 Br v60_100
 (IA v57_92 x59_98 1 fun v61_101 =>
 Ld1 X H_99 v61_101 fun v62_102 =>
 FA v4_1 1 fun v65_106 =>
 Ld1 X H_99 v65_106 fun v66_107 =>
 C X 24 [a0, v66_107, v62_102] H_99 fun v68_109 H_110 =>
 Ok2 (buildSlice X H_110 34 1 [(0, v68_109)]) fun v69_111 H_112 =>
 Ok2 (builtin X H_112 .append [34, 34] [x9_97, v69_111]) fun v70_113 H_114 =>
 Ok (bin X .add 3 x59_98 (.int .i64 1)) fun v71_116 =>
 P_96 [v70_113, v71_116] H_114)
 (Ok (nilCheck a0) fun v73_119 =>
 FA v73_119 3 fun v74_120 =>
 Ld1 X H_99 v74_120 fun v75_121 =>
 FA v4_1 2 fun v76_122 =>
 Ld1 X H_99 v76_122 fun v77_123 =>
 FA v4_1 1 fun v78_124 =>
 Ld1 X H_99 v78_124 fun v79_125 =>
 Ok (build X 67 [(0, (.bool true)), (1, v79_125), (2, a2)]) fun v81_127 =>
 Ok (mapUpdate X H_99 62 v75_121 v77_123 v81_127) fun H_129 =>
 P [x9_97] H_129)) →
 P_96 [x9_97, x59_98] H_99) →
 P_96 [(.slice none 0 0), (.int .i64 0)] H_94

/-- What waits is framed, and the neighbour is known. -/
theorem tk {fp : Nat → Prop} {c mb lv av : Nat} {S : Ca} {e : En} {wv : Value} {a : Ar} {now : Int} {P : List Value → Heap → Prop} (h : CAt ext H fp c mb S) (ho : CaOk S) (ha : ArOk a) (hfm : a.fm < 281474976710655)
    (hlv : H.get lv = some (.cells [.bool e.known, .int .u64 e.mac, .int .i64 e.at_, .int .i64 e.tries, wv] 67)) (hav : H.get av = some (.cells a.cells 31)) (hav1 : av < H.next)
    (hw : WAt ext H (fun b => fp b ∧ b ≠ c ∧ b ≠ mb) wv e.wait) (he : EnOk e)
    (hP : ∀ (x : Value) (H' : Heap), CAt ext H' fp c mb (learn S a now) → Acc H H' fp x (e.wait.map (frameB a.fm S.mac 2048)) → Kp (fun b => b = mb) H H' → P [x] H') :
    tkS (Z ext) (.pointer (some ⟨lv, 0, none⟩)) (.pointer (some ⟨av, 0, none⟩)) (.pointer (some ⟨c, 0, none⟩)) (.int .i64 now) P H := by
  obtain ⟨vs, p, cw, rfl, hc, hB⟩ := hw.ex
  simp only [tkS, FA_ptr, Ld1_ptr, rd1_own hlv, Nat.zero_add, getN_zero, getN_succ, Ok_some, len_34, Ok2_some]
  intro P2 hP2
  refine loop_up e.wait.length (fun i vs' H' => ∃ x, vs' = [x, .int .i64 i] ∧ Acc H H' fp x ((e.wait.take i).map (frameB a.fm S.mac 2048)) ∧ Kp (fun _ => False) H H') ?_ ?_ (Nat.zero_le _) ⟨_, rfl, .nil _ _ _, .refl _ _⟩
  · rintro i _ H1 hi ⟨x, rfl, hA, E1⟩ k
    refine hP2 _ _ _ ?_
    have hav2 : H1.get av = _ := (E1.get' hav1).trans hav
    have h1 := h.kp E1 (fun _ _ => id)
    cases p with
    | none => have := (cellsAt_nil hc).1; omega
    | some pa =>
      obtain ⟨pb, po, ps⟩ := pa
      have hc1 := cellsAt_kp E1 hc (fun b hb => (hw.lt b hb).1) (fun _ _ => id)
      have hB1 := hB.kp E1 (fun _ _ => id) (fun _ h => h)
      obtain ⟨bs, hbs⟩ : ∃ bs, e.wait[i]? = some bs := ⟨e.wait[i], List.getElem?_eq_getElem hi⟩
      obtain ⟨u, hu, hub⟩ := hB1.get hbs
      have hrd := rd1_cellsAt hc1 hi
      rw [hu] at hrd
      simp only at hrd
      have hbl := he.body bs (List.mem_of_getElem? hbs)
      simp only [bin_lss, Ok_some, Br_dec]
      refine ⟨fun _ => ?_, fun h => absurd (by omega) h⟩
      simp only [IA_slice]
      refine ⟨by omega, ?_⟩
      have e1 : po + (i : Int).toNat * 1 = po + i := by omega
      simp only [e1, Ld1_ptr, hrd, Ok_some, rd1_own hav2, Ar.cells, getN_zero, getN_succ]
      refine C_mono (c24 h1.cell ho.mac (by have := ha.fm; omega) hub (by omega)) ?_
      rintro f H2 ⟨f2, E2⟩
      have hA2 := hA.kp E2 (fun _ _ _ _ => id)
      have hle1 := E1.le
      have hbkf : ∀ b, bk f = some b → H1.next ≤ b := fun b hb => (f2.bk hb).1
      refine push (ext := ext) hA2 (f2.down (by omega)) (fun b hb => ⟨fun hh => by have := h.lt b hh; have := hbkf b hb; omega, fun hh => ?_⟩) (fun b hb => by have := h.lt b hb; have := E2.le; omega) (by simp; have := he.wait; omega) ?_
      · obtain ⟨vs2, -, a2, -⟩ := hA
        have := (a2 b hh).2.2.1
        have := hbkf b hb
        omega
      intro v' H3 hA3 k3
      simp only [bin_add, Ok_some]
      rw [wrap_i64 (by have := he.wait; omega)]
      refine k _ _ ⟨v', by simp, ?_, ?_⟩
      · rw [List.take_add_one, hbs, List.map_append]; exact hA3
      · refine (E1.trans E2).then k3 fun b hb hs => ?_
        obtain ⟨vs2, o2, a2, -⟩ := hA
        have hbk : bk x = some b := by
          rcases o2.2 with ⟨h0, q, rfl⟩ | ⟨d, rfl, -, -⟩
          · cases q <;> simp [ob, unk] at hs
          · simpa [ob, bk] using hs
        have := (a2 b hbk).2.1
        omega
  · rintro _ H1 ⟨x, rfl, hA, E1⟩
    refine hP2 _ _ _ ?_
    have hav2 : H1.get av = _ := (E1.get' hav1).trans hav
    have h1 := h.kp E1 (fun _ _ => id)
    rw [List.take_length] at hA
    simp only [bin_lss, Ok_some, Br_dec]
    refine ⟨fun h => absurd h (by omega), fun _ => ?_⟩
    obtain ⟨H2, e2, c2, k2, n2⟩ := h1.update (k := a.fi) (e := ⟨true, a.fm, now, 0, []⟩) (wv := .slice none 0 0) (.nil _)
    have e2' : mapUpdate (Tab.ctx ext spA) H1 62 (.map (some mb)) (.int .u32 a.fi) (.agg ⟨[.bool true, .int .u64 a.fm, .int .i64 now, .int .i64 0, .slice none 0 0]⟩) = some H2 := e2
    simp only [nilCheck_ptr, Ok_some, FA_ptr, Ld1_ptr, Nat.zero_add, rd1_own h1.cell, cacheC, getN_zero, getN_succ, rd1_own hav2, Ar.cells, build_67_012, one_bool, one_int, e2']
    refine hP x H2 c2 (hA.kp k2 fun b a1 _ _ hh => ?_) (E1.mono (fun _ _ h => h.elim) |>.then k2 fun _ _ h => h)
    have := h.mlt
    omega

theorem Acc.down {H0 H1 : Heap} {fp : Nat → Prop} {x : Value} {fs : List (List Int)} (h : Acc H1 H fp x fs) (hle : H0.next ≤ H1.next) : Acc H0 H fp x fs := by
  obtain ⟨vs, h1, h2, h3⟩ := h
  refine ⟨vs, h1, fun b hb => ?_, ?_⟩
  · obtain ⟨a0, a1, a2, a3⟩ := h2 b hb
    exact ⟨a0, by omega, a2, a3⟩
  · revert h3
    generalize bk x = o
    intro h3
    clear h1 h2
    induction vs generalizing fs with
    | nil => cases fs with
      | nil => trivial
      | cons f fs => exact h3.elim
    | cons v vs ih => cases fs with
      | nil => exact h3.elim
      | cons f fs => exact ⟨⟨h3.1.1.down hle, h3.1.2⟩, ih h3.2⟩

theorem bgn_rng {S : Ca} {now : Int} (h : (bgn S now).1 = 0) : 0 ≤ now ∧ now ≤ 1099511627776 := by
  unfold bgn at h
  split at h
  · simp at h
  · omega

theorem oldest_some (l : List (Int × En)) : (oldest l).2 = true → (fnd (oldest l).1 l).isSome := by
  unfold oldest
  have : ∀ (ks : List Int) (s : Int × Bool), (s.2 = true → (fnd s.1 l).isSome) → ((ks.foldl (oldF l) s).2 = true → (fnd (ks.foldl (oldF l) s).1 l).isSome) := by
    intro ks
    induction ks with
    | nil => intro s hs; exact hs
    | cons k ks ih =>
      intro s hs
      refine ih _ ?_
      unfold oldF
      split
      · rename_i hc
        intro _
        cases hf : fnd k l with
        | none => rw [hf] at hc; simp [en0] at hc
        | some e => simp [hf]
      · exact hs
  exact this _ _ (by simp)

theorem del_len {k : Int} : ∀ {l : List (Int × En)}, (fnd k l).isSome → (del k l).length + 1 = l.length
  | [], h => by simp [fnd] at h
  | a :: l, h => by
    by_cases hk : k = a.1
    · simp [del, hk]
    · simp only [fnd, hk, if_false] at h
      simp [del, hk, del_len h]

theorem roomP_len {S : Ca} (h : CaOk S) (hr : (roomP S).1 = true) : (roomP S).2.all.length < 8 := by
  unfold roomP at hr ⊢
  split
  · assumption
  · rename_i h8
    rw [if_neg h8] at hr
    split
    · rename_i ho
      have := del_len (oldest_some S.all ho)
      have := h.len
      show (del _ _).length < 8
      omega
    · rename_i ho; rw [if_neg ho] at hr; cases hr

theorem learn_ok {S : Ca} (h : CaOk S) {a : Ar} (ha : ArOk a) (hfm : a.fm < 281474976710655) {now : Int} (hn : 0 ≤ now ∧ now ≤ 1099511627776) (hl : (fnd a.fi S.all).isSome ∨ S.all.length < 8) : CaOk (learn S a now) :=
  h.put ha.fi ⟨⟨ha.fm.1, hfm⟩, hn, by simp, by simp, by simp, by simp⟩ hl

/-- Take's contract. -/
theorem c11 {fp : Nat → Prop} {c mb : Nat} {S : Ca} (h : CAt ext H fp c mb S) (ho : CaOk S) {a : Ar} (ha : ArOk a) (now : Int) :
    C (Z ext) 11 [.pointer (some ⟨c, 0, none⟩), .agg ⟨a.cells⟩, .int .i64 now] H fun r H' => ∃ fv, r = .tuple #[fv, .int .i64 (take S a now).2.2] ∧ CAt ext H' fp c mb (take S a now).1 ∧ Frs ext H H' fp fv (take S a now).2.1 ∧
      Kp (fun b => b = c ∨ b = mb) H H' := by
  refine C_all fun Q hQ => ?_
  apply w11_ok rfl
  simp only [w11, Al_eq, cellsOf_agg]
  have E0 : Ext H (H.alloc (.cells a.cells 31)) := .alloc _ _ _
  have g0 : (H.alloc (.cells a.cells 31)).get H.next = some (.cells a.cells 31) := by simp
  generalize hH0 : H.alloc (.cells a.cells 31) = H0 at E0 g0
  have n0 : H0.next = H.next + 1 := by rw [← hH0]; simp
  have h0 := h.kp E0 (fun _ _ => id)
  refine C_mono (c23 h0 now) ?_
  rintro _ H1 ⟨rfl, h1, k1, n1⟩
  have ho1 := bgn_ok ho now
  have hne : H.next ≠ c := by have := h.clt; omega
  have hnm : H.next ≠ mb := by have := h.mlt; omega
  have g1 : H1.get H.next = some (.cells a.cells 31) := by rw [k1.get _ (by omega) hne, g0]
  have k01 : Kp (fun b => b = c ∨ b = mb) H H1 := (E0.mono fun _ _ h => h.elim).then k1 fun _ _ h => .inl h
  have hQ' : ∀ (fv : Value) (e : Int) (A : Ca) (fs : List (List Int)) (H' : Heap), take S a now = (A, fs, e) → CAt ext H' fp c mb A → Frs ext H H' fp fv fs → Kp (fun b => b = c ∨ b = mb) H H' → Q (.tuple #[fv, .int .i64 e]) H' := by
    intro fv e A fs H' hs a1 a2 a3
    rw [hs] at hQ
    exact hQ _ _ ⟨fv, rfl, a1, a2, a3⟩
  simp only [bin_neq, Ok_some, Br_ndec]
  refine ⟨fun he => ?_, fun he => ?_⟩
  · exact hQ' _ _ _ _ _ (by unfold take; rw [if_pos he]) h1 (.nil fp) k01
  have htake : take S a now = takeB (bgn S now).2 a now := by unfold take; rw [if_neg (by simp [he])]
  rw [htake] at hQ'
  clear hQ htake
  have hnow := bgn_rng he
  generalize (bgn S now).2 = S1 at h1 ho1 hQ'
  simp only [FA_ptr, Ld1_ptr, rd1_own g1, Ar.cells, Nat.zero_add, getN_zero, getN_succ, Ok_some, nilCheck_ptr, rd1_own h1.cell, cacheC, bin_eql, bin_geq, Br_dec]
  refine ⟨fun hi => ?_, fun hi => ⟨fun hm => ?_, fun hm => ?_⟩⟩
  · exact hQ' _ _ _ _ _ (by unfold takeB; rw [if_pos (.inl hi)]) h1 (.nil fp) k01
  · exact hQ' _ _ _ _ _ (by unfold takeB; rw [if_pos (.inr hm)]) h1 (.nil fp) k01
  have htb : takeB S1 a now = ((takeL S1 a now).1, (takeL S1 a now).2 ++ (if a.op = 1 ∧ a.ti = S1.ip then [frameB a.fm S1.mac 2054 (arpB 2 S1.mac S1.ip a.fm a.fi)] else []), 0) := by
    unfold takeB; rw [if_neg (by omega)]
  rw [htb] at hQ'
  intro P hP
  -- what comes behind
  have hans : ∀ (x : Value) (A : Ca) (fs : List (List Int)) (H2 : Heap), takeL S1 a now = (A, fs) → A.mac = S1.mac → A.ip = S1.ip → CaOk A → fs.length ≤ 4 → CAt ext H2 fp c mb A → Acc H H2 fp x fs → Kp (fun b => b = mb) H1 H2 → P [x] H2 := by
    intro x A fs H2 htl hmac hip hoA hfl hA hAcc k2
    refine hP _ _ ?_
    rw [htl] at hQ'
    have g2 : H2.get H.next = some (.cells a.cells 31) := by rw [k2.get _ (by omega) hnm, g1]
    have k2' : Kp (fun b => b = c ∨ b = mb) H H2 := k01.then k2 fun _ _ h => .inr h
    simp only [rd1_own g2, Ar.cells, getN_zero, getN_succ, Ok_some, bin_eql, Br_dec, rd1_own hA.cell, cacheC]
    refine ⟨fun hop => ⟨fun hti => ?_, fun hti => ?_⟩, fun hop => ?_⟩
    · rw [hip] at hti
      refine C_mono (c29 hA.cell hA.clt hoA.mac hoA.ip (by omega) (by have := ha.fm; omega) (by have := ha.fm; omega) ha.fi) ?_
      rintro f H3 ⟨f3, E3⟩
      rw [hmac, hip] at f3
      have hbkf : ∀ b, bk f = some b → H2.next ≤ b := fun b hb => (f3.bk hb).1
      have hle2 := k2.le
      refine push (ext := ext) (hAcc.kp E3 fun _ _ _ _ => id) (f3.down (by omega)) (fun b hb => ⟨fun hh => by have := hA.lt b hh; have := hbkf b hb; omega, fun hh => ?_⟩) (fun b hb => by have := hA.lt b hb; have := E3.le; omega) (by omega) ?_
      · obtain ⟨vs2, -, a2, -⟩ := hAcc
        have := (a2 b hh).2.2.1
        have := hbkf b hb
        omega
      intro v' H4 hA4 k4
      have hSx : ∀ b, ob x = some b → H.next ≤ b ∧ ¬ fp b := by
        intro b hs
        obtain ⟨vs2, o2, a2, -⟩ := hAcc
        have hbk : bk x = some b := by
          rcases o2.2 with ⟨h0, q, rfl⟩ | ⟨d, rfl, -, -⟩
          · cases q <;> simp [ob, unk] at hs
          · simpa [ob, bk] using hs
        exact ⟨(a2 b hbk).2.1, (a2 b hbk).2.2.2⟩
      refine hQ' v' _ _ _ _ (by rw [if_pos ⟨hop, hti⟩]) ((hA.kp E3 fun _ _ => id).kp k4 fun b hb hs => (hSx b hs).2 hb) hA4.frs ?_
      exact (k2'.then E3 fun _ _ h => h.elim).then k4 fun b hb hs => by have := (hSx b hs).1; omega
    · refine hQ' x _ _ _ _ (by rw [if_neg (by rw [← hip]; exact fun hh => hti hh.2), List.append_nil]) hA hAcc.frs k2'
    · refine hQ' x _ _ _ _ (by rw [if_neg (fun hh => hop hh.1), List.append_nil]) hA hAcc.frs k2'
  obtain ⟨wv, hw, hlk, -⟩ := h1.look a.fi
  have hen := ho1.findD a.fi
  simp only [nilCheck_ptr, Ok_some, rd1_own h1.cell, cacheC, getN_zero, getN_succ, rd1_own g1, Ar.cells, hlk, extract_mk]
  refine new_st rfl (by simp [enV_cells]) (by simp [enV_cells, hw.one]) ?_
  intro H2 n2 g2 E2
  simp only [enV_cells] at g2
  have h2 := h1.kp E2 (fun _ _ => id)
  have hw2 := hw.kp E2 (fun _ _ => id) (fun _ h => h)
  have ga2 : H2.get H.next = some (.cells a.cells 31) := by rw [E2.get' (by omega), g1]
  have hle12 := E2.le
  cases hf : fnd a.fi S1.all with
  | some e =>
    simp only [hf, Option.isSome_some, Br_true, Option.getD_some] at hw2 g2 hen ⊢
    have htk := tk (P := P) (now := now) h2 ho1 ha (by omega) g2 ga2 (by omega) hw2 hen (fun x H3 c3 a3 k3 => by
      refine hans x (learn S1 a now) _ H3 (by unfold takeL; rw [hf]) rfl rfl ?_ (by simp; exact hen.wait) c3 (a3.down (by omega)) ((E2.mono fun _ _ h => h.elim).then k3 fun _ _ h => h)
      exact learn_ok ho1 ha (by omega) hnow (.inl (by rw [hf]; rfl)))
    simpa only [tkS, nilCheck_ptr, Ok_some, FA_ptr, Ld1_ptr, Nat.zero_add] using htk
  | none =>
    simp only [hf, Option.isSome_none, Br_false, Option.getD_none] at hw2 g2 hen ⊢
    simp only [rd1_own ga2, Ar.cells, getN_zero, getN_succ, Ok_some, rd1_own h2.cell, cacheC, bin_eql, Br_dec]
    refine ⟨fun hti => ?_, fun hti => ?_⟩
    · refine C_mono (c25 h2 ho1) ?_
      rintro _ H3 ⟨rfl, h3, k3⟩
      obtain ⟨rm, ri, rl, rla⟩ := roomP_mac S1
      have hle23 := k3.le
      have g3 : H3.get H1.next = _ := (k3.get _ (by omega) (by have := h1.mlt; omega)).trans g2
      have ga3 : H3.get H.next = _ := (k3.get _ (by omega) hnm).trans ga2
      have k13 : Kp (fun b => b = mb) H1 H3 := (E2.mono fun _ _ h => h.elim).then k3 fun _ _ h => h
      have hw3 := hw.kp k13 (fun b hb hh => hb.2.2 hh) (fun _ h => h)
      simp only [hf, Option.getD_none] at hw3
      simp only [Br_bool]
      refine ⟨fun hr => ?_, fun hr => ?_⟩
      · have htk := tk (P := P) (now := now) h3 (roomP_ok ho1) ha (by omega) g3 ga3 (by omega) hw3 en0_ok (fun x H4 c4 a4 k4 => by
          refine hans x (learn (roomP S1).2 a now) _ H4 (by unfold takeL; rw [hf]; simp only; rw [if_pos hti, if_pos hr]) rm ri ?_ (by simp) c4 (by simpa [en0] using a4.down (by omega)) (k13.then k4 fun _ _ h => h)
          exact learn_ok (roomP_ok ho1) ha (by omega) hnow (.inr (roomP_len ho1 hr)))
        simpa only [tkS, nilCheck_ptr, Ok_some, FA_ptr, Ld1_ptr, Nat.zero_add] using htk
      · refine hans _ _ _ H3 (by unfold takeL; rw [hf]; simp only; rw [if_pos hti, if_neg (by simp [hr])]) rm ri (roomP_ok ho1) (by simp) h3 (.nil _ _ _) k13
    · exact hans _ _ _ H2 (by unfold takeL; rw [hf]; simp only; rw [if_neg hti]) rfl rfl ho1 (by simp) h2 (.nil _ _ _) (E2.mono fun _ _ h => h.elim)

end Ev
end Go.Proofs.Ytglkgmomnbdkoaa
