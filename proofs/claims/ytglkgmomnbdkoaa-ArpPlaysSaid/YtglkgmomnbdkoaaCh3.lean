/- What a cache's calls do, and their contracts: Clone, Send. -/
import Derived.Test.YtglkgmomnbdkoaaCh2
namespace Go.Proofs.Ytglkgmomnbdkoaa
namespace Ev
variable {ext : Nat → Nat → Option Value} {H : Heap}

/-- Appending slices. -/
theorem app34 {s x : Value} {n nx : Nat} {vs xs : List Value} (hs : Own H s 1 n vs 29) (hx : ∃ p c, x = .slice p nx c) (hc : cellsAt (Z ext) H nx x = some xs) (hone : xs.all one = true) (hl : xs.length = nx) (hn : n + nx ≤ 1099511627776) :
    ∃ v' H', builtin (Z ext) H .append [34, 34] [s, x] = some (v', H') ∧ Own H' v' 1 (n + nx) (vs ++ xs) 29 ∧ Kp (fun b => ob s = some b) H H' ∧
      ((ob v' = ob s ∧ H' = H ∧ v' = s ∧ nx = 0) ∨ (ob v' = some H.next ∧ H'.next = H.next + 1 ∧ nx ≠ 0 ∧ v' = .slice (some ⟨H.next, 0, none⟩) (n + nx) (unk + 1))) := by
  obtain ⟨p, c, rfl⟩ := hx
  obtain ⟨v', H', h1, h2, h3, h4⟩ := append_own (X := Z ext) (st := 34) (xt := 34) (i := Tab.i34) (ix := Tab.i34) (ie := Tab.i29) (z := 1) (nx := nx) (xs := xs) (x := .slice p nx c) tt_34 rfl tt_34 (by intro k; simp [Tab.i34]) tt_29 rfl (by omega) (by decide) rfl hs rfl
    (by simpa [srcCells] using hc) hone (by omega) (by simp only [Tab.i29]; omega)
  exact ⟨v', H', by simpa [builtin] using h1, h2, h3, h4⟩

theorem cellsAt_nil {X : Ctx} {n c : Nat} {cs : List Value} (h : cellsAt X H n (.slice none n c) = some cs) : n = 0 ∧ cs = [] := by
  simp only [cellsAt] at h
  cases hb : Nat.beq n 0 with
  | false => rw [hb] at h; cases h
  | true => rw [hb] at h; cases h; exact ⟨Nat.eq_of_beq_eq_true hb, rfl⟩

/-- Bytes, once more. -/
theorem c28 {v : Value} {bs : List Int} (hv : BAt ext H v bs) (hl : bs.length ≤ 140737488355328) :
    C (Z ext) 28 [v] H fun r H' => BAt ext H' r bs ∧ (∀ b, bk r = some b → H.next ≤ b) ∧ Ext H H' := by
  refine C_all fun Q hQ => ?_
  obtain ⟨p, c, rfl⟩ := hv.shape
  apply w28_ok rfl
  simp only [w28, eql_29, Ok_some, Br_bool, bsl_29_0, Ok2_some]
  cases p with
  | none =>
    refine ⟨fun _ => ?_, fun h => (by cases h)⟩
    obtain ⟨h0, -⟩ := cellsAt_nil hv.cells
    have : bs = [] := List.eq_nil_of_length_eq_zero h0
    subst this
    exact hQ _ _ ⟨⟨⟨none, 0, rfl⟩, rfl, (by intro b hb; cases hb), (by simp [bk])⟩, (by simp [bk]), .refl _ _⟩
  | some a =>
    refine ⟨fun h => (by cases h), fun _ => ?_⟩
    have E1 : Ext H (H.alloc (.cells [] 5)) := .alloc _ _ _
    obtain ⟨v', H2, e2, o2, k2, hob⟩ := app29 (ext := ext) (Own.nil (H.alloc (.cells [] 5)) (some ⟨H.next, 0, none⟩) 1 5) (bs := []) (xs := bs) (x := .slice (some a) bs.length c) ⟨_, _, rfl⟩ (hv.up E1).cells (by omega)
    rw [e2, Ok2_some]
    have E2 : Ext H H2 := E1.then k2 fun b hb hs => by simp [ob, unk] at hs
    rw [Nat.zero_add, List.nil_append] at o2
    refine hQ _ _ ⟨⟨o2.len, ?_, hv.byt, ?_⟩, ?_, E2⟩
    · have := o2.cells (X := Z ext); rwa [Nat.mul_one] at this
    · intro b hb
      rcases hob with ⟨-, rfl, rfl, -⟩ | ⟨-, h2, -, rfl⟩
      · simp [bk] at hb; subst hb; simp
      · simp [bk] at hb; subst hb; rw [h2]; simp
    · intro b hb
      rcases hob with ⟨-, rfl, rfl, -⟩ | ⟨-, h2, -, rfl⟩
      · simp [bk] at hb; omega
      · simp [bk] at hb; omega

/-- What waits, once more. -/
theorem c27 {fp : Nat → Prop} {v : Value} {ws : List (List Int)} (hv : WAt ext H fp v ws) (hl : ws.length ≤ 100) :
    C (Z ext) 27 [v] H fun r H' => ∃ vs, Own H' r 1 ws.length vs 29 ∧ Bodies ext H' fp vs ws ∧ (∀ b, bk r = some b → H.next ≤ b ∧ b < H'.next) ∧ Ext H H' := by
  refine C_all fun Q hQ => ?_
  obtain ⟨vs, p, c, rfl, hc, hB⟩ := hv.ex
  apply w27_ok rfl
  simp only [w27, eql_34, Ok_some, Br_bool, bsl_34_0, Ok2_some]
  cases p with
  | none =>
    refine ⟨fun _ => ?_, fun h => (by cases h)⟩
    obtain ⟨h0, rfl⟩ := cellsAt_nil hc
    rw [h0] at hc
    refine hQ _ _ ⟨[], by rw [h0]; exact .nil _ _ _ _, hB, by simp [bk], .refl _ _⟩
  | some a =>
    refine ⟨fun h => (by cases h), fun _ => ?_⟩
    have E1 : Ext H (H.alloc (.cells [] 29)) := .alloc _ _ _
    obtain ⟨v', H2, e2, o2, k2, hob⟩ := app34 (ext := ext) (Own.nil (H.alloc (.cells [] 29)) (some ⟨H.next, 0, none⟩) 1 29) (xs := vs) (x := .slice (some a) ws.length c) ⟨_, _, rfl⟩
      (cellsAt_kp E1 hc (fun b hb => (hv.lt b hb).1) (fun _ _ => id)) hB.one hB.length (by omega)
    rw [e2, Ok2_some]
    have E2 : Ext H H2 := E1.then k2 fun b hb hs => by simp [ob, unk] at hs
    rw [Nat.zero_add, List.nil_append] at o2
    refine hQ _ _ ⟨vs, o2, hB.kp E2 (fun _ _ => id) (fun _ h => h), ?_, E2⟩
    intro b hb
    rcases hob with ⟨-, rfl, rfl, -⟩ | ⟨-, h2, -, rfl⟩
    · simp [bk] at hb; subst hb; simp
    · simp [bk] at hb; subst hb; rw [h2]; simp

/-! Send -/
def sendB (S : Ca) (to : Int) (bs : List Int) (now : Int) : Ca × List (List Int) × Int :=
  if bs.length = 0 ∨ 1500 < bs.length then (S, [], 6)
  else if ((fnd to S.all).getD en0).known = true then (S, [frameB ((fnd to S.all).getD en0).mac S.mac 2048 bs], 0)
  else if ((fnd to S.all).getD en0).wait.length = 4 then ({ S with lost := S.lost + 1 }, [], 10)
  else match fnd to S.all with
    | some e => ({ S with all := put to { e with wait := e.wait ++ [bs] } S.all }, [], 0)
    | none => if (roomP S).1 = true then ({ (roomP S).2 with all := put to ⟨false, 0, now, 1, [bs]⟩ (roomP S).2.all }, [frameB 281474976710655 S.mac 2054 (arpB 1 S.mac S.ip 0 to)], 0)
      else ({ (roomP S).2 with lost := (roomP S).2.lost + 1 }, [], 10)

def send (S : Ca) (to : Int) (bs : List Int) (now : Int) : Ca × List (List Int) × Int :=
  if (bgn S now).1 ≠ 0 then ((bgn S now).2, [], (bgn S now).1) else sendB (bgn S now).2 to bs now

/-- Frames that are new, and no one's. -/
def FrL (H0 H : Heap) (fp : Nat → Prop) (o : Option Nat) : List Value → List (List Int) → Prop
  | [], [] => True
  | v :: vs, f :: fs => (Fr H0 H v f ∧ ∀ b, bk v = some b → ¬ fp b ∧ o ≠ some b) ∧ FrL H0 H fp o vs fs
  | _, _ => False

structure Frs (ext : Nat → Nat → Option Value) (H0 H : Heap) (fp : Nat → Prop) (v : Value) (fs : List (List Int)) : Prop where
  ex : ∃ vs p c, v = .slice p fs.length c ∧ cellsAt (Z ext) H fs.length v = some vs ∧ FrL H0 H fp (bk v) vs fs
  own : ∀ b, bk v = some b → (H0.next ≤ b ∧ b < H.next) ∧ ¬ fp b

theorem Frs.nil {H0 : Heap} (fp : Nat → Prop) : Frs ext H0 H fp (.slice none 0 0) [] := ⟨⟨[], none, 0, rfl, rfl, trivial⟩, by simp [bk]⟩

theorem Fr.bk {H0 : Heap} {v : Value} {bs : List Int} (h : Fr H0 H v bs) {b : Nat} (hb : Ev.bk v = some b) : H0.next ≤ b ∧ b < H.next ∧ H.get b = some (.cells (B8 bs) 5) := by
  obtain ⟨c, rfl, h1, h2, h3⟩ := h
  simp [Ev.bk] at hb; subst hb; exact ⟨h1, h2, h3⟩

/-- One frame, behind a new slice. -/
theorem Frs.one {H0 : Heap} {fp : Nat → Prop} {v : Value} {f : List Int} (hf : Fr H0 H v f) (hfp : ∀ b, H0.next ≤ b → ¬ fp b) {e : TypeId} {cc : Nat} : Frs ext H0 (H.alloc (.cells [v] e)) fp (.slice (some ⟨H.next, 0, none⟩) 1 cc) [f] := by
  have hE : Ext H (H.alloc (.cells [v] e)) := .alloc _ _ _
  have hlt : ∀ b, bk v = some b → b < H.next := fun b hb => (hf.bk hb).2.1
  have hle : H0.next ≤ H.next := by obtain ⟨b, -, h1, h2, -⟩ := hf; omega
  refine ⟨⟨[v], _, _, rfl, ?_, ⟨⟨hf.up hE (fun _ _ _ => id), fun b hb => ⟨hfp b (hf.bk hb).1, ?_⟩⟩, trivial⟩⟩, ?_⟩
  · rw [cellsAt_own (Heap.get_alloc_self _ _) (by simp)]; rfl
  · have := hlt b hb; simp [bk]; omega
  · intro b hb
    simp [bk] at hb; subst hb
    exact ⟨⟨hle, by simp⟩, hfp _ hle⟩

def finS (X : Ctx) (lv a0 a1 a2 x13 : Value) (H : Heap) (Q : Value → Heap → Prop) : Prop :=
 FA lv 4 fun v76_146 =>
 Ld1 X H v76_146 fun v77_147 =>
 C X 27 [v77_147] H fun v78_148 H_149 =>
 C X 28 [a2] H_149 fun v80_151 H_152 =>
 Ok2 (buildSlice X H_152 34 1 [(0, v80_151)]) fun v81_153 H_154 =>
 Ok2 (builtin X H_154 .append [34, 34] [v78_148, v81_153]) fun v82_155 H_156 =>
 FA lv 4 fun v83_157 =>
 St H_156 v83_157 1 v82_155 fun H_159 =>
 Ok (nilCheck a0) fun v85_161 =>
 FA v85_161 3 fun v86_162 =>
 Ld1 X H_159 v86_162 fun v87_163 =>
 LdN X H_159 lv 5 fun v89_165 =>
 Ok (mapUpdate X H_159 62 v87_163 a1 v89_165) fun H_167 =>
 Q (.tuple #[x13, (.int .i64 0)]) H_167

/-- The end of Send: the body waits. -/
theorem fin {fp : Nat → Prop} {c mb lv : Nat} {S : Ca} {e : En} {wv a2 x13 : Value} {bs : List Int} {to : Int} {Q : Value → Heap → Prop} (h : CAt ext H fp c mb S) (hlv : H.get lv = some (.cells [.bool e.known, .int .u64 e.mac, .int .i64 e.at_, .int .i64 e.tries, wv] 67))
    (hlt : lv < H.next) (hnf : ¬ fp lv) (hw : WAt ext H (fun b => fp b ∧ b ≠ c ∧ b ≠ mb) wv e.wait) (hb : BAt ext H a2 bs) (hbl : bs.length ≤ 1500) (hwl : e.wait.length ≤ 4)
    (hQ : ∀ (H' : Heap) (fp' : Nat → Prop), CAt ext H' fp' c mb { S with all := put to { e with wait := e.wait ++ [bs] } S.all } → Kp (fun b => b = mb ∨ b = lv) H H' → (∀ b, fp' b → fp b ∨ H.next ≤ b) → Q (.tuple #[x13, .int .i64 0]) H') :
    finS (Z ext) (.pointer (some ⟨lv, 0, none⟩)) (.pointer (some ⟨c, 0, none⟩)) (.int .u32 to) a2 x13 H Q := by
  simp only [finS, FA_ptr, Ld1_ptr, rd1_own hlv, Nat.zero_add, getN_zero, getN_succ, Ok_some, nilCheck_ptr, LdN_ptr]
  refine C_mono (c27 hw (by omega)) ?_
  rintro wv2 H1 ⟨vs, o1, B1, f1, E1⟩
  refine C_mono (c28 (hb.up E1) (by omega)) ?_
  rintro b2 H2 ⟨hb2, f2, E2⟩
  obtain ⟨p2, cc2, e2⟩ := hb2.shape
  rw [bsl_34_1 _ (by rw [e2]; simp), Ok2_some]
  have E3 : Ext H2 (H2.alloc (.cells [b2] 29)) := .alloc _ _ _
  have o3 := (o1.kp E2 (fun _ _ => id)).kp E3 (fun _ _ => id)
  obtain ⟨v4, H4, e4, o4, k4, hob⟩ := app34 (ext := ext) o3 (xs := [b2]) (x := .slice (some ⟨H2.next, 0, none⟩) 1 1) (nx := 1) ⟨_, _, rfl⟩ (by rw [cellsAt_own (Heap.get_alloc_self _ _) (by simp)]; rfl) (by rw [e2]; simp) rfl (by omega)
  rw [e4, Ok2_some]
  have hwv : ∀ b, ob wv2 = some b → H.next ≤ b ∧ b < H1.next := by
    intro b hs
    have : bk wv2 = some b := by
      rcases o1.2 with ⟨h0, q, rfl⟩ | ⟨d, rfl, -, -⟩
      · cases q <;> simp [ob, unk] at hs
      · simpa [ob, bk] using hs
    exact f1 b this
  have hkS : ∀ b, b < H.next → ¬ ob wv2 = some b := fun b hb' hs => by have := hwv b hs; omega
  have E13 := (E1.trans E2).trans E3
  have E4 : Ext H H4 := E13.then k4 fun b hb' hs => hkS b hb' hs
  have hlv4 : H4.get lv = _ := (E4.get' hlt).trans hlv
  rcases hob with ⟨-, -, -, h0⟩ | ⟨-, n4, -, rfl⟩
  · cases h0
  refine st_one hlv4 (by simp) (by simp) ?_
  have hcell := (h.kp E4 (fun _ _ => id)).cell
  have hcl : c ≠ lv := fun e => hnf (e ▸ h.fc)
  have hk5 : Kp (fun b => b = lv) H4 (H4.set lv (.cells ([.bool e.known, .int .u64 e.mac, .int .i64 e.at_, .int .i64 e.tries, wv].set 4 (.slice (some ⟨(H2.alloc (.cells [b2] 29)).next, 0, none⟩) (e.wait.length + 1) (unk + 1))) 67)) := Kp.set _ _ _ fun _ => rfl
  have hset : ([.bool e.known, .int .u64 e.mac, .int .i64 e.at_, .int .i64 e.tries, wv] : List Value).set 4 (.slice (some ⟨(H2.alloc (.cells [b2] 29)).next, 0, none⟩) (e.wait.length + 1) (unk + 1)) =
      [.bool e.known, .int .u64 e.mac, .int .i64 e.at_, .int .i64 e.tries, .slice (some ⟨(H2.alloc (.cells [b2] 29)).next, 0, none⟩) (e.wait.length + 1) (unk + 1)] := rfl
  rw [hset] at hk5 ⊢
  generalize hH5 : H4.set lv (.cells [.bool e.known, .int .u64 e.mac, .int .i64 e.at_, .int .i64 e.tries, .slice (some ⟨(H2.alloc (.cells [b2] 29)).next, 0, none⟩) (e.wait.length + 1) (unk + 1)] 67) = H5 at hk5
  have hg5 : H5.get lv = some (.cells [.bool e.known, .int .u64 e.mac, .int .i64 e.at_, .int .i64 e.tries, .slice (some ⟨(H2.alloc (.cells [b2] 29)).next, 0, none⟩) (e.wait.length + 1) (unk + 1)] 67) := by rw [← hH5]; simp
  have n5 : H5.next = H4.next := by rw [← hH5]; simp
  have h5 : CAt ext H5 fp c mb S := (h.kp E4 (fun _ _ => id)).kp hk5 fun b hb' he => hnf (he ▸ hb')
  rw [rd1_own h5.cell]
  simp only [cacheC, getN_zero, getN_succ, Ok_some, rdN_own hg5]
  rw [show (5 : Nat) = ([.bool e.known, .int .u64 e.mac, .int .i64 e.at_, .int .i64 e.tries, .slice (some ⟨(H2.alloc (.cells [b2] 29)).next, 0, none⟩) (e.wait.length + 1) (unk + 1)] : List Value).length from rfl, cutN_all, Ok_some]
  -- the new blocks
  let fp' : Nat → Prop := fun b => fp b ∨ (H.next ≤ b ∧ b < H5.next)
  have hle : H.next ≤ H5.next := by rw [n5]; exact E4.le
  have hlvlt : lv < H.next := hlt
  have h5' : CAt ext H5 fp' c mb S := h5.more (fun b hb' => .inl hb') (fun b hb' => by
    rcases hb' with hb' | hb'
    · exact h5.lt b hb'
    · exact hb'.2)
  have E45 : ∀ b, H.next ≤ b → ¬ b = lv := fun b hb' he => by omega
  have hnew : ∀ b, H.next ≤ b → b < H5.next → fp' b ∧ b ≠ c ∧ b ≠ mb := fun b h1 h2 => ⟨.inr ⟨h1, h2⟩, by have := h.clt; omega, by have := h.mlt; omega⟩
  have hw5 : WAt ext H5 (fun b => fp' b ∧ b ≠ c ∧ b ≠ mb) (.slice (some ⟨(H2.alloc (.cells [b2] 29)).next, 0, none⟩) (e.wait.length + 1) (unk + 1)) (e.wait ++ [bs]) := by
    rcases o4.2 with ⟨h0, -⟩ | ⟨d, hd, hdl, hdg⟩
    · omega
    cases hd
    have hg : H5.get (H2.alloc (.cells [b2] 29)).next = some (.cells (vs ++ [b2]) 29) := by
      rw [hk5.get _ hdl (E45 _ (by have := E13.le; omega)), hdg]
    refine ⟨⟨vs ++ [b2], some ⟨(H2.alloc (.cells [b2] 29)).next, 0, none⟩, unk + 1, by simp, ?_, ?_⟩, ?_⟩
    · have hl := o4.1
      simp only [Nat.mul_one] at hl
      rw [cellsAt_own hg (by simp at hl ⊢; omega), List.drop_zero, List.take_of_length_le (by simp at hl ⊢; omega)]
    · have E15 : Kp (fun b => b = lv ∨ ob wv2 = some b) H1 H5 :=
        (((E2.trans E3).mono fun _ _ h => h.elim).then (S' := fun b => ob wv2 = some b) k4 fun _ _ h => .inr h).then hk5 fun _ _ h => .inl h
      have E25 : Kp (fun b => b = lv ∨ ob wv2 = some b) H2 H5 := ((E3.mono fun _ _ h => h.elim).then (S' := fun b => ob wv2 = some b) k4 fun _ _ h => .inr h).then hk5 fun _ _ h => .inl h
      refine Bodies.append (B1.kp E15 ?_ fun b hb' => ⟨.inl hb'.1, hb'.2⟩) ⟨⟨hb2.kp E25 ?_, ?_⟩, trivial⟩
      · rintro b hb' (he | he)
        · exact hnf (he ▸ hb'.1)
        · have := hwv b he; have := h.lt b hb'.1; omega
      · rintro b hb' (he | he)
        · have := f2 b hb'; have := E1.le; omega
        · have := f2 b hb'; have := hwv b he; omega
      · intro b hb'
        have h7 := f2 b hb'
        have h8 := hb2.lt b hb'
        have h9 := E1.le
        have h10 := E3.le
        have h11 : (H2.alloc (.cells [b2] 29)).next ≤ H5.next := by rw [n5, n4]; omega
        exact hnew b (by omega) (by omega)
    · intro b hb'
      simp [bk] at hb'
      subst hb'
      have h9 := E13.le
      simp at h9
      have h12 : H5.next = H2.next + 1 + 1 := by rw [n5, n4]; simp
      exact ⟨by omega, hnew _ (by omega) (by omega)⟩
  obtain ⟨H6, e6, c6, k6, n6⟩ := h5'.update (k := to) (e := { e with wait := e.wait ++ [bs] }) hw5
  have e6' : mapUpdate (Tab.ctx ext spA) H5 62 (.map (some mb)) (.int .u32 to) (.agg ⟨[.bool e.known, .int .u64 e.mac, .int .i64 e.at_, .int .i64 e.tries, .slice (some ⟨(H2.alloc (.cells [b2] 29)).next, 0, none⟩) (e.wait.length + 1) (unk + 1)]⟩) = some H6 := e6
  rw [e6', Ok_some]
  refine hQ H6 fp' c6 ?_ ?_
  · exact ((E4.mono fun _ _ h => h.elim).then hk5 fun _ _ h => .inr h).then k6 fun _ _ h => .inl h
  · intro b hb'
    rcases hb' with hb' | hb'
    · exact .inl hb'
    · exact .inr hb'.1

theorem CaOk.findD {S : Ca} (h : CaOk S) (k : Int) : EnOk ((fnd k S.all).getD en0) := by
  cases hf : fnd k S.all with
  | none => exact en0_ok
  | some e => exact h.find hf

theorem roomP_mac (S : Ca) : (roomP S).2.mac = S.mac ∧ (roomP S).2.ip = S.ip ∧ (roomP S).2.lost = S.lost ∧ (roomP S).2.last = S.last := by
  unfold roomP; split
  · exact ⟨rfl, rfl, rfl, rfl⟩
  · split <;> exact ⟨rfl, rfl, rfl, rfl⟩

theorem bgn_lost (S : Ca) (now : Int) : (bgn S now).2.lost = S.lost ∧ (bgn S now).2.mac = S.mac ∧ (bgn S now).2.ip = S.ip ∧ (bgn S now).2.all = S.all := by
  unfold bgn; split
  · exact ⟨rfl, rfl, rfl, rfl⟩
  · split <;> exact ⟨rfl, rfl, rfl, rfl⟩

/-- Send's contract. -/
theorem c10 {fp : Nat → Prop} {c mb : Nat} {S : Ca} (h : CAt ext H fp c mb S) (ho : CaOk S) (hl : S.lost < 4611686018427387904) {to : Int} (ht : 0 ≤ to ∧ to < 4294967296) {body : Value} {bs : List Int} (hb : BAt ext H body bs)
    (hbf : ∀ b, bk body = some b → ¬ fp b) (now : Int) :
    C (Z ext) 10 [.pointer (some ⟨c, 0, none⟩), .int .u32 to, body, .int .i64 now] H fun r H' => ∃ fv fp', r = .tuple #[fv, .int .i64 (send S to bs now).2.2] ∧ CAt ext H' fp' c mb (send S to bs now).1 ∧ Frs ext H H' fp' fv (send S to bs now).2.1 ∧
      Kp (fun b => b = c ∨ b = mb) H H' ∧ ∀ b, fp' b → fp b ∨ H.next ≤ b := by
  refine C_all fun Q hQ => ?_
  apply w10_ok rfl
  simp only [w10]
  refine C_mono (c23 h now) ?_
  rintro _ H1 ⟨rfl, h1, k1, n1⟩
  have ho1 := bgn_ok ho now
  have hl1 := (bgn_lost S now).1
  have hb1 := hb.kp k1 fun b hb' he => hbf b hb' (by subst he; exact h.fc)
  have hQ' : ∀ (fv : Value) (fp' : Nat → Prop) (e : Int) (A : Ca) (fs : List (List Int)) (H' : Heap), send S to bs now = (A, fs, e) → CAt ext H' fp' c mb A → Frs ext H H' fp' fv fs → Kp (fun b => b = c ∨ b = mb) H1 H' → (∀ b, fp' b → fp b ∨ H.next ≤ b) → Q (.tuple #[fv, .int .i64 e]) H' := by
    intro fv fp' e A fs H' hs a1 a2 a3 a4
    rw [hs] at hQ
    exact hQ _ _ ⟨fv, fp', rfl, a1, a2, (k1.mono fun _ _ h => .inl h).then a3 fun _ _ h => h, a4⟩
  simp only [bin_neq, Ok_some, Br_ndec]
  refine ⟨fun he => ?_, fun he => ?_⟩
  · exact hQ' _ fp _ _ _ _ (by unfold send; rw [if_pos he]) h1 (.nil fp) (.refl _ _) fun _ h => .inl h
  have hsend : send S to bs now = sendB (bgn S now).2 to bs now := by unfold send; rw [if_neg (by simp [he])]
  rw [hsend] at hQ'
  clear hQ hsend
  generalize (bgn S now).2 = S1 at h1 ho1 hl1 hQ'
  have hn1 : H.next = H1.next := n1.symm
  obtain ⟨p, cc, rfl⟩ := hb.shape
  simp only [len_29, Ok2_some, Ok_some, bin_eql, bin_gtr, Br_dec]
  refine ⟨fun h0 => ?_, fun h0 => ⟨fun h15 => ?_, fun h15 => ?_⟩⟩
  · exact hQ' _ fp _ _ _ _ (by unfold sendB; rw [if_pos (.inl (by omega))]) h1 (.nil fp) (.refl _ _) fun _ h => .inl h
  · exact hQ' _ fp _ _ _ _ (by unfold sendB; rw [if_pos (.inr (by omega))]) h1 (.nil fp) (.refl _ _) fun _ h => .inl h
  have hsb : ¬ (bs.length = 0 ∨ 1500 < bs.length) := by omega
  obtain ⟨wv, hw, hlk, -⟩ := h1.look to
  have hen := ho1.findD to
  obtain ⟨wvs, pw, cw, hwe, hwc, hwB⟩ := hw.ex
  simp only [nilCheck_ptr, Ok_some, FA_ptr, Ld1_ptr, rd1_own h1.cell, cacheC, getN_zero, getN_succ, Nat.zero_add, hlk, extract_mk, Al_eq]
  refine new_st rfl (by simp [enV_cells]) (by simp [enV_cells, hw.one]) ?_
  intro H2 n2 g2 E2
  simp only [enV_cells] at g2
  have h2 := h1.kp E2 (fun _ _ => id)
  have hb2 := hb1.up E2
  have hlv : ∀ b, fp b → b ≠ H1.next := fun b hb' => by have := h1.lt b hb'; omega
  have hw2 := hw.kp E2 (fun _ _ => id) (fun _ h => h)
  have hm := ho1.mac
  simp only [rd1_own g2, getN_zero, getN_succ, Ok_some, Br_bool]
  refine ⟨fun hk => ?_, fun hk => ?_⟩
  · -- known
    refine C_mono (c24 h2.cell hm (by have := hen.mac; omega) hb2 (by omega)) ?_
    rintro f H3 ⟨f3, E3⟩
    have f3' := f3.down (H0 := H) (by omega)
    rw [bsl_34_1 f (by obtain ⟨b, rfl, -⟩ := f3; simp), Ok2_some]
    have E13 : Ext H1 (H3.alloc (.cells [f] 29)) := (E2.trans E3).trans (.alloc _ _ _)
    exact hQ' _ fp _ _ _ _ (by unfold sendB; rw [if_neg hsb, if_pos hk]) (h1.kp E13 (fun _ _ => id)) (Frs.one f3' (fun b hb' hf => by have := h.lt b hf; omega)) (E13.mono fun _ _ h => h.elim) fun _ h => .inl h
  have hk' : ¬ ((fnd to S1.all).getD en0).known = true := by rw [hk]; simp
  subst hwe
  simp only [len_34, Ok2_some, bin_eql, Ok_some, Br_dec, rd1_own h2.cell, cacheC, getN_zero, getN_succ, bin_add]
  have lost_case : ∀ (A : Ca) (H' : Heap) (K : Prop), CAt ext H' fp c mb A → A.lost = S.lost → Kp (fun b => b = mb) H1 H' → sendB S1 to bs now = ({ A with lost := A.lost + 1 }, [], 10) →
      St H' (.pointer (some ⟨c, 4, none⟩)) 1 (.int .i64 (wrapF .i64 (A.lost + 1))) fun H_69 => Q (.tuple #[(.slice none 0 0), (.int .i64 10)]) H_69 := by
    intro A H' K a1 a2 a3 a4
    rw [wrap_i64 (by have := ho.lost; omega)]
    refine st_one a1.cell (by simp) (by simp [cacheC]) ?_
    exact hQ' _ fp _ _ _ _ a4 (a1.cells A.last (A.lost + 1)) (.nil fp) ((a3.mono fun _ _ h => .inr h).then (S' := fun b => b = c) (Kp.set _ _ _ fun _ => rfl) fun b _ h => .inl h) fun _ h => .inl h
  refine ⟨fun h4 => ?_, fun h4 => ?_⟩
  · have h4' : ((fnd to S1.all).getD en0).wait.length = 4 := by omega
    exact lost_case S1 H2 True h2 hl1 (E2.mono fun _ _ h => h.elim) (by unfold sendB; rw [if_neg hsb, if_neg hk', if_pos h4'])
  have h4' : ¬ ((fnd to S1.all).getD en0).wait.length = 4 := by omega
  cases hf : fnd to S1.all with
  | some e =>
    simp only [hf, Option.isSome_some, un_not, Ok_some, Bool.not_true, Br_false, Option.getD_some] at hw2 g2 hk hen h4' ⊢
    intro P hP
    refine hP _ _ ?_
    have hfin := fin (Q := Q) (x13 := .slice none 0 0) (to := to) h2 g2 (by omega) (fun hf' => hlv _ hf' rfl) hw2 hb2 (by omega) hen.wait (fun H' fp' a1 a2 a3 =>
      hQ' _ fp' _ _ _ _ (by unfold sendB; rw [if_neg hsb, hf]; simp only [Option.getD_some]; rw [if_neg (by simp [hk]), if_neg h4']) a1 (.nil fp')
        ((E2.mono fun _ _ h => h.elim).then a2 fun b hb' hh => by rcases hh with hh | hh; exact .inr hh; omega) fun b hb' => by rcases a3 b hb' with h | h; exact .inl h; exact .inr (by omega))
    simpa only [finS, nilCheck_ptr, Ok_some, FA_ptr, Ld1_ptr, LdN_ptr, Nat.zero_add] using hfin
  | none =>
    simp only [hf, Option.isSome_none, un_not, Ok_some, Bool.not_false, Br_true, Option.getD_none] at hw2 g2 hk hen h4' ⊢
    refine C_mono (c25 h2 ho1) ?_
    rintro _ H3 ⟨rfl, h3, k3⟩
    obtain ⟨rm, ri, rl, rla⟩ := roomP_mac S1
    have hsB : sendB S1 to bs now = if (roomP S1).1 = true then ({ (roomP S1).2 with all := put to ⟨false, 0, now, 1, [bs]⟩ (roomP S1).2.all }, [frameB 281474976710655 S1.mac 2054 (arpB 1 S1.mac S1.ip 0 to)], 0)
      else ({ (roomP S1).2 with lost := (roomP S1).2.lost + 1 }, [], 10) := by
      unfold sendB; rw [if_neg hsb, hf]; simp only [Option.getD_none]; rw [if_neg (by simp [en0]), if_neg h4']
    have k13 : Kp (fun b => b = mb) H1 H3 := (E2.mono fun _ _ h => h.elim).then k3 fun _ _ h => h
    simp only [un_not, Ok_some, Br_bool, rd1_own h3.cell, cacheC, getN_zero, getN_succ, bin_add]
    refine ⟨fun hr => ?_, fun hr => ?_⟩
    · have hr' : (roomP S1).1 = false := by simpa using hr
      exact lost_case _ H3 True h3 (by rw [rl, hl1]) k13 (by rw [hsB, hr']; rfl)
    · have hr' : (roomP S1).1 = true := by simpa using hr
      rw [hr', if_pos rfl] at hsB
      intro P hP
      have hmbne : H1.next ≠ mb := by have := h1.mlt; omega
      have g3 : H3.get H1.next = _ := (k3.get _ (by omega) hmbne).trans g2
      have hlt3 : H1.next < H3.next := by have := k3.le; omega
      refine st_one' g3 (by simp) (by simp) ?_
      intro H4 n4 g4 k4
      simp only [List.set_cons_succ, List.set_cons_zero] at g4
      refine st_one' g4 (by simp) (by simp) ?_
      intro H5 n5 g5 k5
      simp only [List.set_cons_succ, List.set_cons_zero] at g5
      have k35 : Kp (fun b => b = H1.next) H3 H5 := k4.trans k5
      have h5 := h3.kp k35 (fun b hb' he => hlv b hb' he)
      have hm5 : 0 ≤ (roomP S1).2.mac ∧ (roomP S1).2.mac < 281474976710655 := by rw [rm]; exact hm
      have hi5 : 0 ≤ (roomP S1).2.ip ∧ (roomP S1).2.ip < 4294967296 := by rw [ri]; exact ho1.ip
      refine C_mono (c26 h5.cell h5.clt hm5 hi5 ht) ?_
      rintro f H6 ⟨f6, E6⟩
      rw [rm, ri] at f6
      rw [bsl_34_1 f (by obtain ⟨b, rfl, -⟩ := f6; simp), Ok2_some]
      have hf6 : ∀ b, bk f = some b → H5.next ≤ b ∧ b < H6.next ∧ _ := fun b hb' => f6.bk hb'
      obtain ⟨fb, hfe, -⟩ := id f6
      obtain ⟨v7, H7, e7, o7, k7, hob⟩ := app34 (ext := ext) (H := H6.alloc (.cells [f] 29)) (Own.nil _ none 1 29) (xs := [f]) (x := .slice (some ⟨H6.next, 0, none⟩) 1 1) (nx := 1) ⟨_, _, rfl⟩ (by rw [cellsAt_own (Heap.get_alloc_self _ _) (by simp)]; rfl) (by rw [hfe]; simp) rfl (by omega)
      rw [e7, Ok2_some]
      rcases hob with ⟨-, -, -, h0⟩ | ⟨-, n7, -, rfl⟩
      · cases h0
      have E7 : Ext H6 H7 := (Kp.alloc _ _ _).then k7 fun b _ hs => by simp [ob] at hs
      have E57 := E6.trans E7
      have h7 := h5.kp E57 (fun _ _ => id)
      have g7 : H7.get H1.next = _ := (E57.get' (by omega)).trans g5
      have k17 : Kp (fun b => b = mb ∨ b = H1.next) H1 H7 := ((k13.mono fun _ _ h => .inl h).then (k35.mono fun _ _ h => h) fun _ _ h => .inr h).then E57 fun _ _ h => h.elim
      have hw7 := hw.kp k17 (fun b hb' hh => by
        rcases hh with hh | hh
        · exact hb'.2.2 hh
        · exact hlv b hb'.1 hh) (fun _ h => h)
      simp only [hf, Option.getD_none] at hw7
      have hb7 := hb1.kp k17 (fun b hb' hh => by
        rcases hh with hh | hh
        · exact hbf b hb' (hh ▸ h1.fm)
        · have := hb1.lt b hb'; omega)
      refine hP _ _ ?_
      have hle7 : H5.next ≤ H7.next := E57.le
      have hfin := fin (Q := Q) (x13 := .slice (some ⟨(H6.alloc (.cells [f] 29)).next, 0, none⟩) (0 + 1) (unk + 1)) (to := to) (e := ⟨false, 0, now, 1, []⟩) h7 g7 (by omega) (fun hf' => hlv _ hf' rfl) hw7 hb7 (by omega) (by simp) (fun H' fp' a1 a2 a3 => by
        refine hQ' _ fp' _ _ _ _ hsB a1 ?_ ?_ ?_
        · have o8 := o7.2
          rcases o8 with ⟨h0, -⟩ | ⟨d, hd, hdl, hdg⟩
          · omega
          cases hd
          have hne1 : ∀ b, H5.next ≤ b → ¬ (b = mb ∨ b = H1.next) := fun b hb' hh => by
            have := h5.mlt
            rcases hh with hh | hh <;> omega
          have hnfp : ∀ b, H5.next ≤ b → b < H7.next → ¬ fp' b := fun b h1' h2' hh => by
            rcases a3 b hh with hh | hh
            · have := h.lt b hh; omega
            · omega
          have hle6 := E6.le
          have hn6 : (H6.alloc (.cells [f] 29)).next = H6.next + 1 := by simp
          have hg8 : H'.get (H6.alloc (.cells [f] 29)).next = some (.cells ([] ++ [f]) 29) := by
            rw [a2.get _ hdl (hne1 _ (by omega)), hdg]
          have f8 : Fr H5 H' f _ := (f6.up E7 (fun _ _ _ => id)).up a2 (fun b hb' _ => hne1 b hb')
          refine ⟨⟨[f], _, _, rfl, ?_, ⟨⟨f8.down (by omega), fun b hb' => ⟨hnfp b (hf6 b hb').1 (by have := (hf6 b hb').2.1; omega), ?_⟩⟩, trivial⟩⟩, ?_⟩
          · rw [cellsAt_own hg8 (by simp)]; rfl
          · have := (hf6 b hb').2.1
            simp only [bk, hn6]
            intro e
            cases e
            omega
          · intro b hb'
            simp only [bk, hn6] at hb'
            cases hb'
            have hd' := a2.le
            exact ⟨⟨by omega, by omega⟩, hnfp _ (by omega) (by omega)⟩
        · exact ((k17.mono fun b hb' hh => by
            rcases hh with hh | hh
            · exact .inr hh
            · omega).then a2 fun b hb' hh => by
            rcases hh with hh | hh
            · exact .inr hh
            · omega)
        · intro b hb'
          rcases a3 b hb' with h | h
          · exact .inl h
          · exact .inr (by omega))
      simpa only [finS, nilCheck_ptr, Ok_some, FA_ptr, Ld1_ptr, LdN_ptr, Nat.zero_add] using hfin

end Ev
end Go.Proofs.Ytglkgmomnbdkoaa
