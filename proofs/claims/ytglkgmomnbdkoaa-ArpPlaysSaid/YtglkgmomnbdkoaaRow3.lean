/- What a law's arguments hold, as the evaluator sees it: bytes, deeds. -/
import Derived.Test.YtglkgmomnbdkoaaCh6
namespace Go.Proofs.Ytglkgmomnbdkoaa
open Go.ChangeShapes Go.WideShapes Go.ChangeAt Go.RowKit Go.Proofs Ev

section
variable {Hh : Type} {enc : TypeId × Value → Hh} {W : World} {hd : Bool} {fuel : Nat}

theorem mapM_at {α β : Type} {f : α → Option β} : ∀ {l : List α} {r : List β}, l.mapM f = some r → ∀ {i : Nat} {a : α}, l[i]? = some a → f a = r[i]?
  | [], r, h, i, a, ha => by simp at ha
  | x :: l, r, h, i, a, ha => by
    rw [List.mapM_cons] at h
    simp only [Option.bind_eq_bind, Option.bind_eq_some_iff, Option.pure_def, Option.some.injEq] at h
    obtain ⟨y, h1, ys, h2, rfl⟩ := h
    cases i with
    | zero => simp at ha; subst ha; simpa using h1
    | succ i => simpa using mapM_at h2 (i := i) (by simpa using ha)

theorem cells_at {a : Addr} {n : Nat} {cs : List Value} (h : W.cells? 0 a n = some cs) {j : Nat} (hj : j < n) : W.cell? (a.add j) = cs[j]? := by
  unfold World.cells? at h
  rw [if_pos (Nat.zero_le _)] at h
  exact mapM_at h (by simp [hj])

theorem cells_spot {a : Addr} {n : Nat} {cs : List Value} (h : W.cells? 0 a n = some cs) (hn : 0 < n) (hl : cs.length = n) : a.spot = none := by
  have := cells_at h hn
  rw [List.getElem?_eq_getElem (by omega)] at this
  unfold World.cell? at this
  split at this
  · split at this
    · cases this
    · rename_i hs
      simp only [Addr.add, if_pos] at hs
      cases hq : a.spot with
      | none => rfl
      | some s => rw [hq] at hs; simp at hs
  · cases this

theorem int_rng {k : IntKind} {n : Int} (h : (Lit.int k n).wf = true) : k.min ≤ n ∧ n ≤ k.max := by
  simpa [Lit.wf] using h

theorem extN_of {X : Ctx} {b : Nat} {f : Nat → Value} : ∀ {n o : Nat}, (∀ i, i < n → X.ext b (o + i) = some (f i)) → extN X b o n = some ((List.range n).map f)
  | 0, o, _ => rfl
  | n + 1, o, h => by
    have h0 := h 0 (by omega)
    have ih := extN_of (X := X) (b := b) (f := fun i => f (i + 1)) (n := n) (o := o + 1) fun i hi => by
      have := h (i + 1) (by omega)
      rwa [show o + (i + 1) = o + 1 + i by omega] at this
    simp only [Nat.add_zero] at h0
    simp only [extN, h0, ih]
    rw [List.range_succ_eq_map]
    simp [Function.comp_def]

theorem getD_cell {b o : Nat} {s : Option Nat} {j : Nat} (hs : s = none) : (⟨b, o, s⟩ : Addr).add j = ⟨b, o + j, none⟩ := by
  subst hs
  unfold Addr.add
  by_cases h : j = 0
  · subst h; simp
  · simp [h]

/-- Bytes from outside: a slice's value, and what it shows. -/
def BX (W : World) (u : Value) (bs : List Int) : Prop := bk u = none ∧ ∀ H : Heap, BAt (extOf W) H u bs

def byteAtW (W : World) (b i : Nat) : Int := match W.cell? ⟨b, i, none⟩ with
  | some (.int _ n) => n
  | _ => 0

theorem trod_bytes {t : TypeId} {v : Value} {x : DataW Hh × List MemPlace} (ht : Try.prog.underlying t = some (.slice 5)) (h5 : Try.prog.underlying 5 = some (.int .u8)) (h1 : Try.prog.cellsOf 5 = 1)
    (h : DataW.trod enc Try.prog W 0 (fun _ => true) hd fuel t [v] = some x) : ∃ u bs, absC v = some u ∧ BX W u bs ∧ one u = true ∧ bs.length ≤ maxLen := by
  rcases DataW.trod_slice ht h with ⟨h0, -⟩ | ⟨a, len, cap, elems, rest, n, -, h0, -, -, hl, hm, hlen, hel, hsp, -⟩
  · cases h0
    exact ⟨_, [], rfl, ⟨rfl, fun H => ⟨⟨none, 0, rfl⟩, rfl, (by intro b hb; cases hb), (by simp [bk])⟩⟩, by simp, by simp⟩
  · cases h0
    obtain ⟨b, o, s⟩ := a
    obtain ⟨hr1, hr2⟩ := hsp rfl
    have hu : unk = 18446744073709551616 := rfl
    have hmx : maxLen = 9223372036854775807 := rfl
    by_cases hc : cap = 0
    · have hl0 : len = 0 := by omega
      subst hc; subst hl0
      cases s with
      | none => exact ⟨.slice (some ⟨b, o, some 0⟩) 0 0, [], rfl, ⟨rfl, fun H => ⟨⟨_, _, rfl⟩, rfl, (by intro b hb; cases hb), (by simp [bk])⟩⟩, by simp, by simp⟩
      | some s => exact ⟨.slice (some ⟨0, 0, some 0⟩) 0 0, [], rfl, ⟨rfl, fun H => ⟨⟨_, _, rfl⟩, rfl, (by intro b hb; cases hb), (by simp [bk])⟩⟩, by simp, by simp⟩
    · -- all its cells are there
      have hcell : ∀ i, i < len → ∃ m, W.cell? (Addr.add ⟨b, o, s⟩ i) = some (.int .u8 m) ∧ 0 ≤ m ∧ m < 256 := by
        intro i hi
        have he := hel i hi
        rw [List.getElem?_eq_getElem (by omega)] at he
        rw [h1, Nat.mul_one] at he
        obtain ⟨cs, hcs, hcd⟩ := Option.bind_eq_some_iff.1 he
        obtain ⟨m, rfl, -, hw⟩ := DataW.trod_int h5 hcd
        have := cells_at hcs (j := 0) (by omega)
        have e0 : ∀ a : Addr, a.add 0 = a := fun a => by simp [Addr.add]
        rw [e0] at this
        have hr := int_rng hw
        have e1 : IntKind.min .u8 = 0 := by decide
        have e2 : IntKind.max .u8 = 255 := by decide
        exact ⟨m, by simpa using this, by omega, by omega⟩
      have hs : s = none := by
        have key : ∀ (cs : Option (List Value)), (W.cells? 0 (Addr.add ⟨b, o, s⟩ 0) 1) = cs → cs.isSome → s = none := by
          intro cs hcs hsome
          obtain ⟨l, rfl⟩ := Option.isSome_iff_exists.1 hsome
          have e0 : Addr.add ⟨b, o, s⟩ 0 = ⟨b, o, s⟩ := by simp [Addr.add]
          rw [e0] at hcs
          have hcs' := hcs
          unfold World.cells? at hcs'
          rw [if_pos (Nat.zero_le _)] at hcs'
          have hlen : l.length = 1 := by
            simp only [List.range_one, List.mapM_cons, List.mapM_nil, Option.bind_eq_bind, Option.bind_eq_some_iff, Option.pure_def, Option.some.injEq] at hcs'
            obtain ⟨y, -, ys, rfl, rfl⟩ := hcs'
            rfl
          exact cells_spot hcs (by omega) hlen
        by_cases hl0 : len = 0
        · subst hl0
          have := hr2 0 (by omega)
          rw [List.getElem?_eq_getElem (by omega), h1] at this
          simp only [Nat.add_zero, Nat.zero_mul] at this
          obtain ⟨cs, hcs, -⟩ := Option.bind_eq_some_iff.1 this
          exact key _ hcs rfl
        · have he := hel 0 (by omega)
          rw [List.getElem?_eq_getElem (by omega), h1] at he
          simp only [Nat.zero_mul] at he
          obtain ⟨cs, hcs, -⟩ := Option.bind_eq_some_iff.1 he
          exact key _ hcs rfl
      subst hs
      have hb : Nat.blt cap unk = true := Nat.ble_eq_true_of_le (by omega)
      have hext : ∀ i, i < len → (Z (extOf W)).ext b (o + i) = some (.int .u8 (byteAtW W b (o + i))) := by
        intro i hi
        obtain ⟨m, h2, -, -⟩ := hcell i hi
        rw [getD_cell rfl] at h2
        show extOf W b (o + i) = _
        simp only [extOf, byteAtW, h2, absC]
      have hbs : ((List.range len).map fun i => byteAtW W b (o + i)).length = len := by simp
      refine ⟨.slice (some ⟨b, o, some 0⟩) len cap, (List.range len).map fun i => byteAtW W b (o + i), by simp only [absC, hb, cond_true], ⟨rfl, fun H => ⟨⟨_, _, by rw [hbs]⟩, ?_, ?_, by simp [bk]⟩⟩, by simp, by rw [hbs]; omega⟩
      · rw [hbs]
        by_cases hl0 : len = 0
        · subst hl0; rfl
        · rw [cellsAt_some hl0]
          simp only [rdN]
          rw [extN_of hext]
          simp [B8, Function.comp_def]
      · intro z hz
        obtain ⟨i, hi, rfl⟩ := List.mem_map.1 hz
        rw [List.mem_range] at hi
        obtain ⟨m, h2, h3, h4⟩ := hcell i hi
        rw [getD_cell rfl] at h2
        simp only [byteAtW, h2]
        exact ⟨h3, h4⟩

/-- A deed of a script. -/
structure Deed where
  do_ : Int
  to : Int
  body : List Int
  arp : Ar
  now : Int

structure DeedX (W : World) (b o : Nat) (d : Deed) : Prop where
  do_ : (Z (extOf W)).ext b o = some (.int .i64 d.do_)
  to : (Z (extOf W)).ext b (o + 1) = some (.int .u32 d.to)
  toR : 0 ≤ d.to ∧ d.to < 4294967296
  body : ∃ u, (Z (extOf W)).ext b (o + 2) = some u ∧ BX W u d.body ∧ d.body.length ≤ maxLen
  op : (Z (extOf W)).ext b (o + 3) = some (.int .i64 d.arp.op)
  fm : (Z (extOf W)).ext b (o + 4) = some (.int .u64 d.arp.fm)
  fi : (Z (extOf W)).ext b (o + 5) = some (.int .u32 d.arp.fi)
  tm : (Z (extOf W)).ext b (o + 6) = some (.int .u64 d.arp.tm)
  ti : (Z (extOf W)).ext b (o + 7) = some (.int .u32 d.arp.ti)
  arp : ArOk d.arp
  now : (Z (extOf W)).ext b (o + 8) = some (.int .i64 d.now)

theorem under5 : Try.prog.underlying 5 = some (.int .u8) := Try.underlying5
theorem one5 : Try.prog.cellsOf 5 = 1 := by kernel_rfl
theorem one3 : Try.prog.cellsOf 3 = 1 := by kernel_rfl
theorem one22 : Try.prog.cellsOf 22 = 1 := by kernel_rfl
theorem one28 : Try.prog.cellsOf 28 = 1 := by kernel_rfl
theorem one29 : Try.prog.cellsOf 29 = 1 := by kernel_rfl
theorem nine33 : Try.prog.cellsOf 33 = 9 := by kernel_rfl
theorem fiv31 : Try.prog.cellsOf 31 = 5 := by kernel_rfl

theorem one_of {α : Type} {cs : List α} {o : Nat} {y : α} (h : (cs.drop o).take 1 = [y]) : cs[o]? = some y := by
  have := congrArg (fun l => l[0]?) h
  simpa using this

set_option maxRecDepth 100000 in
theorem trod_deed {cs : List Value} {x : DataW Hh × List MemPlace} (h : DataW.trod enc Try.prog W 0 (fun _ => true) hd fuel 33 cs = some x) :
    ∃ d : Deed, ∃ u v, cs.length = 9 ∧ cs[0]? = some (.int .i64 d.do_) ∧ cs[1]? = some (.int .u32 d.to) ∧ (0 ≤ d.to ∧ d.to < 4294967296) ∧ cs[2]? = some v ∧ absC v = some u ∧ BX W u d.body ∧ d.body.length ≤ maxLen ∧ cs[3]? = some (.int .i64 d.arp.op) ∧ cs[4]? = some (.int .u64 d.arp.fm) ∧
      cs[5]? = some (.int .u32 d.arp.fi) ∧ cs[6]? = some (.int .u64 d.arp.tm) ∧ cs[7]? = some (.int .u32 d.arp.ti) ∧ ArOk d.arp ∧ cs[8]? = some (.int .i64 d.now) := by
  obtain ⟨xs, n, -, -, hl, hxl, hf⟩ := DataW.trod_struct Try.underlying33 h
  rw [nine33] at hl
  have hx : ∀ i, i < 5 → ∃ y, xs[i]? = some y := fun i hi => ⟨xs[i]'(by simp at hxl; omega), List.getElem?_eq_getElem _⟩
  have q1 : IntKind.min .u32 = 0 := by decide
  have q2 : IntKind.max .u32 = 4294967295 := by decide
  have q3 : IntKind.min .u64 = 0 := by decide
  have q4 : IntKind.max .u64 = 18446744073709551615 := by decide
  obtain ⟨y0, g0⟩ := hx 0 (by omega)
  obtain ⟨y1, g1⟩ := hx 1 (by omega)
  obtain ⟨y2, g2⟩ := hx 2 (by omega)
  obtain ⟨y3, g3⟩ := hx 3 (by omega)
  obtain ⟨y4, g4⟩ := hx 4 (by omega)
  have f0 := (hf 0 _ rfl).trans g0
  have f1 := (hf 1 _ rfl).trans g1
  have f2 := (hf 2 _ rfl).trans g2
  have f3 := (hf 3 _ rfl).trans g3
  have f4 := (hf 4 _ rfl).trans g4
  change DataW.trod enc Try.prog W 0 (fun _ => true) hd n 3 ((cs.drop 0).take (Try.prog.cellsOf 3)) = some y0 at f0
  rw [one3] at f0
  change DataW.trod enc Try.prog W 0 (fun _ => true) hd n 22 ((cs.drop 1).take (Try.prog.cellsOf 22)) = some y1 at f1
  rw [one22] at f1
  change DataW.trod enc Try.prog W 0 (fun _ => true) hd n 29 ((cs.drop 2).take (Try.prog.cellsOf 29)) = some y2 at f2
  rw [one29] at f2
  change DataW.trod enc Try.prog W 0 (fun _ => true) hd n 31 ((cs.drop 3).take (Try.prog.cellsOf 31)) = some y3 at f3
  rw [fiv31] at f3
  change DataW.trod enc Try.prog W 0 (fun _ => true) hd n 3 ((cs.drop 8).take (Try.prog.cellsOf 3)) = some y4 at f4
  rw [one3] at f4
  obtain ⟨n0, e0, -, -⟩ := DataW.trod_int Try.underlying3 f0
  obtain ⟨n1, e1, -, w1⟩ := DataW.trod_int Try.underlying22 f1
  have hv2 : ∃ v, (cs.drop 2).take 1 = [v] := by
    have : ((cs.drop 2).take 1).length = 1 := by simp; omega
    match hq : (cs.drop 2).take 1, this with
    | [v], _ => exact ⟨v, rfl⟩
  obtain ⟨v, e2⟩ := hv2
  rw [e2] at f2
  obtain ⟨u, bs, hu, hbx, -, hbl⟩ := trod_bytes Try.underlying29 Try.underlying5 one5 f2
  obtain ⟨n4, e4, -, -⟩ := DataW.trod_int Try.underlying3 f4
  obtain ⟨zs, n', -, -, hl3, hzl, hz⟩ := DataW.trod_struct Try.underlying31 f3
  have hy : ∀ i, i < 5 → ∃ y, zs[i]? = some y := fun i hi => ⟨zs[i]'(by simp at hzl; omega), List.getElem?_eq_getElem _⟩
  obtain ⟨a0, k0⟩ := hy 0 (by omega)
  obtain ⟨a1, k1⟩ := hy 1 (by omega)
  obtain ⟨a2, k2⟩ := hy 2 (by omega)
  obtain ⟨a3, k3⟩ := hy 3 (by omega)
  obtain ⟨a4, k4⟩ := hy 4 (by omega)
  have p0 := (hz 0 _ rfl).trans k0
  have p1 := (hz 1 _ rfl).trans k1
  have p2 := (hz 2 _ rfl).trans k2
  have p3 := (hz 3 _ rfl).trans k3
  have p4 := (hz 4 _ rfl).trans k4
  change DataW.trod enc Try.prog W 0 (fun _ => true) hd n' 3 (((List.take 5 (List.drop 3 cs)).drop 0).take (Try.prog.cellsOf 3)) = some a0 at p0
  rw [one3] at p0
  change DataW.trod enc Try.prog W 0 (fun _ => true) hd n' 28 (((List.take 5 (List.drop 3 cs)).drop 1).take (Try.prog.cellsOf 28)) = some a1 at p1
  rw [one28] at p1
  change DataW.trod enc Try.prog W 0 (fun _ => true) hd n' 22 (((List.take 5 (List.drop 3 cs)).drop 2).take (Try.prog.cellsOf 22)) = some a2 at p2
  rw [one22] at p2
  change DataW.trod enc Try.prog W 0 (fun _ => true) hd n' 28 (((List.take 5 (List.drop 3 cs)).drop 3).take (Try.prog.cellsOf 28)) = some a3 at p3
  rw [one28] at p3
  change DataW.trod enc Try.prog W 0 (fun _ => true) hd n' 22 (((List.take 5 (List.drop 3 cs)).drop 4).take (Try.prog.cellsOf 22)) = some a4 at p4
  rw [one22] at p4
  obtain ⟨m0, d0, -, -⟩ := DataW.trod_int Try.underlying3 p0
  obtain ⟨m1, d1, -, v1⟩ := DataW.trod_int Try.underlying28 p1
  obtain ⟨m2, d2, -, v2⟩ := DataW.trod_int Try.underlying22 p2
  obtain ⟨m3, d3, -, -⟩ := DataW.trod_int Try.underlying28 p3
  obtain ⟨m4, d4, -, v4⟩ := DataW.trod_int Try.underlying22 p4
  have r1 := int_rng w1
  have s1 := int_rng v1
  have s2 := int_rng v2
  have s4 := int_rng v4
  have lift : ∀ {j : Nat} {y : Value}, j < 5 → ((List.take 5 (List.drop 3 cs)).drop j).take 1 = [y] → cs[3 + j]? = some y := by
    intro j y hj hh
    have := one_of hh
    rw [List.getElem?_take_of_lt hj, List.getElem?_drop] at this
    exact this
  refine ⟨⟨n0, n1, bs, ⟨m0, m1, m2, m3, m4⟩, n4⟩, u, v, hl, one_of e0, one_of e1, by simp only; omega, one_of e2, hu, hbx, hbl, lift (j := 0) (by omega) d0, lift (j := 1) (by omega) d1, lift (j := 2) (by omega) d2, lift (j := 3) (by omega) d3, lift (j := 4) (by omega) d4,
    ⟨by simp only; omega, by simp only; omega, by simp only; omega⟩, one_of e4⟩

/-- A script, as it lies outside. -/
def Script (W : World) (u : Value) (ds : List Deed) : Prop := (u = .slice none 0 0 ∧ ds = []) ∨ ∃ b o c, u = .slice (some ⟨b, o, some 0⟩) ds.length c ∧ ∀ i d, ds[i]? = some d → DeedX W b (o + i * 9) d

set_option maxRecDepth 100000 in
theorem trod_script {v : Value} {x : DataW Hh × List MemPlace} (h : DataW.trod enc Try.prog W 0 (fun _ => true) hd fuel 23 [v] = some x) : ∃ u ds, absC v = some u ∧ Script W u ds ∧ ds.length ≤ maxLen := by
  rcases DataW.trod_slice Try.underlying23 h with ⟨h0, -⟩ | ⟨a, len, cap, elems, rest, n, -, h0, -, -, hl, hm, hlen, hel, hsp, -⟩
  · cases h0
    exact ⟨_, [], rfl, Or.inl ⟨rfl, rfl⟩, by simp⟩
  · cases h0
    obtain ⟨b, o, s⟩ := a
    obtain ⟨hr1, hr2⟩ := hsp rfl
    have hu : unk = 18446744073709551616 := rfl
    have hmx : maxLen = 9223372036854775807 := rfl
    by_cases hc : cap = 0
    · have hl0 : len = 0 := by omega
      subst hc; subst hl0
      cases s with
      | none => exact ⟨.slice (some ⟨b, o, some 0⟩) 0 0, [], rfl, Or.inr ⟨b, o, 0, rfl, fun i d hd' => by simp at hd'⟩, by simp⟩
      | some s => exact ⟨.slice (some ⟨0, 0, some 0⟩) 0 0, [], rfl, Or.inr ⟨0, 0, 0, rfl, fun i d hd' => by simp at hd'⟩, by simp⟩
    · have hcells : ∀ i, i < len → ∃ cs d u v, W.cells? 0 (Addr.add ⟨b, o, s⟩ (i * 9)) 9 = some cs ∧ (cs.length = 9 ∧ cs[0]? = some (.int .i64 (d : Deed).do_) ∧ cs[1]? = some (.int .u32 d.to) ∧ (0 ≤ d.to ∧ d.to < 4294967296) ∧ cs[2]? = some v ∧ absC v = some u ∧ BX W u d.body ∧ d.body.length ≤ maxLen ∧ cs[3]? = some (.int .i64 d.arp.op) ∧ cs[4]? = some (.int .u64 d.arp.fm) ∧
          cs[5]? = some (.int .u32 d.arp.fi) ∧ cs[6]? = some (.int .u64 d.arp.tm) ∧ cs[7]? = some (.int .u32 d.arp.ti) ∧ ArOk d.arp ∧ cs[8]? = some (.int .i64 d.now)) := by
        intro i hi
        have he := hel i hi
        rw [List.getElem?_eq_getElem (by omega), nine33] at he
        obtain ⟨cs, hcs, hcd⟩ := Option.bind_eq_some_iff.1 he
        obtain ⟨d, u, v, hh⟩ := trod_deed hcd
        exact ⟨cs, d, u, v, hcs, hh⟩
      have hs : s = none := by
        have e0 : Addr.add ⟨b, o, s⟩ 0 = ⟨b, o, s⟩ := by simp [Addr.add]
        by_cases hl0 : len = 0
        · subst hl0
          have := hr2 0 (by omega)
          rw [List.getElem?_eq_getElem (show 0 < rest.length by rw [hr1]; omega), nine33] at this
          simp only [Nat.add_zero, Nat.zero_mul] at this
          obtain ⟨cs, hcs, hcd⟩ := Option.bind_eq_some_iff.1 this
          obtain ⟨d, u, v, hh⟩ := trod_deed hcd
          rw [e0] at hcs
          exact cells_spot hcs (by omega) hh.1
        · obtain ⟨cs, d, u, v, hcs, hh⟩ := hcells 0 (by omega)
          rw [Nat.zero_mul, e0] at hcs
          exact cells_spot hcs (by omega) hh.1
      subst hs
      have hb : Nat.blt cap unk = true := Nat.ble_eq_true_of_le (by omega)
      have hd1 : ∀ i, i < len → ∃ d, DeedX W b (o + i * 9) d := by
        intro i hi
        obtain ⟨cs, d, u, v, hcs, hl9, g0, g1, gr, g2, gu, gb, gl, g3, g4, g5, g6, g7, ga, g8⟩ := hcells i hi
        have hat : ∀ j y, j < 9 → cs[j]? = some y → W.cell? ⟨b, o + i * 9 + j, none⟩ = some y := by
          intro j y hj hy
          have := cells_at hcs hj
          rw [hy, getD_cell (s := none) rfl] at this
          have e : ((⟨b, o + i * 9, none⟩ : Addr)).add j = ⟨b, o + i * 9 + j, none⟩ := getD_cell rfl
          rw [e] at this
          exact this
        have hx : ∀ j y z, j < 9 → cs[j]? = some y → absC y = some z → (Z (extOf W)).ext b (o + i * 9 + j) = some z := by
          intro j y z hj hy hz
          show extOf W b _ = _
          simp only [extOf, hat j y hj hy, hz]
        exact ⟨d, hx 0 _ _ (by omega) g0 rfl, hx 1 _ _ (by omega) g1 rfl, gr, ⟨u, hx 2 _ _ (by omega) g2 gu, gb, gl⟩, hx 3 _ _ (by omega) g3 rfl, hx 4 _ _ (by omega) g4 rfl, hx 5 _ _ (by omega) g5 rfl, hx 6 _ _ (by omega) g6 rfl, hx 7 _ _ (by omega) g7 rfl, ga, hx 8 _ _ (by omega) g8 rfl⟩
      let ds : List Deed := (List.range len).map fun i => if h : i < len then (hd1 i h).choose else ⟨0, 0, [], ⟨0, 0, 0, 0, 0⟩, 0⟩
      have hdl : ds.length = len := by simp [ds]
      refine ⟨.slice (some ⟨b, o, some 0⟩) len cap, ds, by simp only [absC, hb, cond_true], Or.inr ⟨b, o, cap, by rw [hdl], fun i d hid => ?_⟩, by rw [hdl]; omega⟩
      have hi : i < len := by
        rcases Nat.lt_or_ge i len with h' | h'
        · exact h'
        · rw [List.getElem?_eq_none (by omega)] at hid; cases hid
      have : d = (hd1 i hi).choose := by
        simp [ds, hi] at hid
        exact hid.symm
      rw [this]
      exact (hd1 i hi).choose_spec

end

end Go.Proofs.Ytglkgmomnbdkoaa
