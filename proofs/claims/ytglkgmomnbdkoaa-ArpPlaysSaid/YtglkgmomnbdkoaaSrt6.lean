/- slices.Sorted(maps.Keys(m)) at uint32: its contract for the evaluator. -/
import Derived.Test.YtglkgmomnbdkoaaSrt5
namespace Go.Proofs.Ytglkgmomnbdkoaa
open Go.RowKit Go.Sort Go.Maps Go.Proofs Ev
open Go.WideElems (Fit rd rg)

/-- The values of a map are not looked at. -/
noncomputable def R0 : Value → Option (DataW Unit × List MemPlace) := fun _ => some (.lit (.bool true), [])

theorem keyOf_u {n : Int} (h : (Lit.int .u32 n).wf = true) : keyOf Try.prog 22 (.int .u32 n) = some (.int .u32 n) := by
  simp [keyOf, mapKey, Try.underlying22, h]

theorem rd_u {e : MapEntry} {n : Int} (hk : e.key = .int .u32 n) (h : (Lit.int .u32 n).wf = true) : rd Try.prog 22 R0 e = some (.int .u32 n, .lit (.bool true)) := by
  obtain ⟨k, v, b⟩ := e
  simp only at hk
  subst hk
  exact Go.WideElems.rd_mk (yv := (.lit (.bool true), [])) (keyOf_u h) rfl

theorem Keyeds.get {clock : Nat} {l : List Int} {es : List MapEntry} (h : Keyeds clock l es) {e : MapEntry} (he : e ∈ es) : ∃ n, n ∈ l ∧ e.key = .int .u32 n ∧ (Lit.int .u32 n).wf = true := by
  have : e.key ∈ es.map (·.key) := List.mem_map.2 ⟨e, he, rfl⟩
  rw [h.keys] at this
  obtain ⟨n, hn, e'⟩ := List.mem_map.1 this
  exact ⟨n, hn, e'.symm, h.wf n hn⟩

theorem Keyeds.length {clock : Nat} {l : List Int} {es : List MapEntry} (h : Keyeds clock l es) : es.length = l.length := by
  have := congrArg List.length h.keys
  simpa using this

theorem Keyeds.fit {clock : Nat} {l : List Int} {es : Array MapEntry} (h : Keyeds clock l es.toList) (hn : l.length ≤ 12) : Fit Try.prog 22 R0 es clock := by
  refine ⟨?_, (Go.MapKept.stamped_iff es clock).2 ⟨h.born, h.once, ?_⟩, ?_⟩
  · have := h.length
    simp only [Array.length_toList] at this
    have h2 : 12 ≤ maxLen := by decide
    omega
  · have : (es.toList.map (·.key)).Pairwise (· ≠ ·) := by
      rw [h.keys, List.pairwise_map]
      exact h.nodup.imp fun hab e => hab (by simpa using e)
    rw [List.pairwise_map] at this
    exact this
  · intro x hx
    obtain ⟨n, -, h1, h2⟩ := h.get hx
    exact ⟨_, rd_u h1 h2⟩

/-- The map as a datum. -/
noncomputable def datum (es : List MapEntry) : DataW Unit := .map ((es.map (rg Try.prog 22 R0)).foldr DataW.insert [])

theorem Keyeds.has {clock : Nat} {l : List Int} {es : List MapEntry} (h : Keyeds clock l es) (x : Int) : has (datum es) (.int .u32 x) = true ↔ x ∈ l := by
  unfold datum
  rw [has_eq, List.any_eq_true]
  constructor
  · rintro ⟨p, hp, hs⟩
    obtain ⟨e, he, rfl⟩ := List.mem_map.1 (mem_sorted.1 hp)
    obtain ⟨n, hn, h1, h2⟩ := h.get he
    rw [Go.WideElems.rg_of (rd_u h1 h2)] at hs
    simp only [Lit.sameKey] at hs
    have : n = x := by simpa using hs
    rw [← this]; exact hn
  · intro hx
    have : Value.int .u32 x ∈ es.map (·.key) := by rw [h.keys]; exact List.mem_map.2 ⟨x, hx, rfl⟩
    obtain ⟨e, he, hk⟩ := List.mem_map.1 this
    refine ⟨_, mem_sorted.2 (List.mem_map.2 ⟨e, he, rfl⟩), ?_⟩
    rw [Go.WideElems.rg_of (rd_u hk (h.wf x hx))]
    simp [Lit.sameKey]

theorem Keyeds.perm {clock : Nat} {l : List Int} {es : List MapEntry} (h : Keyeds clock l es) {ss : List Int} (hC : Come (datum es) (fun _ => false) ss) : ss.Perm l := by
  refine (List.perm_ext_iff_of_nodup hC.1 h.nodup).2 fun x => ?_
  rw [hC.2 x, h.has]; simp

theorem datum_size (es : List MapEntry) : Maps.size (datum es) = es.length := by
  unfold datum
  simp only [Maps.size]
  rw [(Go.WideShapes.sorted_perm _).length_eq, List.length_map]

/-! ### The world behind the sort -/

theorem putRow_block {w : World} {g n : Nat} {cur : Array Value} {e : TypeId} {fr : Nat × Nat} (d : Array Int) (hb : w.heap[g]? = some (.cells cur e fr)) :
    (putRow encU (Sort.ahead w n) g 0 d).heap[g]? = some (.cells (putCells encU 0 d cur) e fr) := by
  simp [putRow, mapBlock, Sort.ahead, Array.getElem?_modify, hb, onCells]

theorem putRow_old {w : World} {g n : Nat} (d : Array Int) {b : Nat} (hb : b ≠ g) : (putRow encU (Sort.ahead w n) g 0 d).heap[b]? = w.heap[b]? := by
  simp [putRow, mapBlock, Sort.ahead, Array.getElem?_modify, Ne.symm hb]

theorem putRow_size {w : World} {g n : Nat} (d : Array Int) : (putRow encU (Sort.ahead w n) g 0 d).heap.size = w.heap.size := by
  simp [putRow, mapBlock, Sort.ahead]

theorem holds_block {w : World} {g : Nat} {cur : Array Value} {e : TypeId} {ss : List Int} (hb : w.heap[g]? = some (.cells cur e (0, 0))) (ht : cur.toList.take ss.length = ss.map (Value.int .u32)) : Holds encU w g 0 ss.toArray := by
  intro j hj
  have hj' : j < ss.length := by simpa using hj
  refine ⟨?_, by simp [World.frozen?, hb]⟩
  have h1 : (cur.toList.take ss.length)[j]? = (ss.map (Value.int .u32))[j]? := by rw [ht]
  rw [List.getElem?_take_of_lt hj'] at h1
  simp only [World.cell?, hb, Nat.zero_add]
  simp only [Option.isSome_none, Bool.false_eq_true, if_false]
  rw [← Array.getElem?_toList, h1]
  simp [hj']

theorem Lies.of_below {w w' : World} (h : Go.RowKit.Below w.heap.size w w') : Lies w w' := ⟨h.size, h.block, h.os, h.output, h.tape⟩
theorem Lies.trans {a b c : World} (h : Lies a b) (h' : Lies b c) : Lies a c :=
  ⟨Nat.le_trans h.size h'.size, fun k hk => (h'.old k (Nat.lt_of_lt_of_le hk h.size)).trans (h.old k hk), h'.os.trans h.os, h'.out.trans h.out, h'.tape.trans h.tape⟩

theorem Lies.put {w w1 : World} (h : Lies w w1) {g : Nat} (hg : w.heap.size ≤ g) (n : Nat) (d : Array Int) : Lies w (putRow encU (Sort.ahead w1 n) g 0 d) :=
  ⟨by rw [putRow_size]; exact h.size, fun b hb => (putRow_old d (by omega)).trans (h.old b hb), h.os, h.out, h.tape⟩

set_option maxHeartbeats 2000000 in
set_option maxRecDepth 1000000 in
/-- slices.Sorted at the iterator of maps.Keys. -/
theorem sorted_u (Bm Bo b : Nat) (es : Array MapEntry) (clock : Nat) (l : List Int) (w : World) (hm : w.cell? ⟨Bm, Bo, none⟩ = some (.map (some b))) (hb : w.heap[b]? = some (.map es clock))
    (hK : Keyeds clock l es.toList) (hn : l.length ≤ 12) :
    Calls Try.prog 40 #[.func (.func 54) #[] #[.pointer (some ⟨Bm, Bo, none⟩)]] w fun e w' => Lies w w' ∧
      ((l = [] ∧ e = .returned (.slice none 0 0)) ∨
       ∃ g cap cur, l ≠ [] ∧ e = .returned (.slice (some ⟨g, 0, none⟩) l.length cap) ∧ w.heap.size ≤ g ∧ w'.heap[g]? = some (.cells cur 22 (0, 0)) ∧ l.length ≤ cap ∧ cur.size = cap ∧ ∀ (i : Nat) (x : Int), (sortL l)[i]? = some x → cur[i]? = some (.int .u32 x)) := by
  have hBm : Bm < w.heap.size := by
    rcases Nat.lt_or_ge Bm w.heap.size with h' | h'
    · exact h'
    · unfold World.cell? at hm; rw [Array.getElem?_eq_none h'] at hm; cases hm
  have hown : w.ownsMap Try.prog 22 R0 b es.size (datum es.toList) := ⟨es, clock, hb, hK.fit hn, Nat.le_refl _, rfl⟩
  have hsz : Maps.size (datum es.toList) ≤ 12 := by rw [datum_size, hK.length]; exact hn
  have h12 : 12 ≤ maxLen := by decide
  have cC := collect Bm Bo b es.size (datum es.toList) w hBm hm hown (by omega) (by omega)
  go_enter Try.func40, Try.ntmps40
  go_wp2_with (go_at_call 52; refine cC.mono ?_; rintro e W ⟨v, ss, rfl, hC, hrow, hnil, hbl⟩)
  have hlies := Lies.of_below hbl
  have hperm := hK.perm hC
  have hlen := hperm.length_eq
  rcases hrow.2 with ⟨rfl, hz⟩ | ⟨g, cap, cur, rfl, hbase, hgb, r1, r2, r3, r4⟩
  · refine (sort_nil 0 W).mono ?_
    rintro e w' ⟨rfl, hl⟩
    go_wp2
    go_ret
    refine ⟨hlies.trans hl, .inl ⟨?_, rfl⟩⟩
    exact List.eq_nil_of_length_eq_zero (by omega)
  · have hgl : g < W.heap.size := (Array.getElem?_eq_some_iff.1 hgb).1
    have hH : Holds encU W g 0 ss.toArray := holds_block hgb (by simpa using r4)
    refine (sort_u g 0 cap ss.toArray W hgl hH (by simp; omega)).mono ?_
    rintro e w' ⟨rfl, w1, n, hl, rfl⟩
    have hg1 := (hl.old g hgl).trans hgb
    go_wp2
    go_ret
    have hne : l ≠ [] := by
      intro e
      have h0 : ss = [] := List.eq_nil_of_length_eq_zero (by rw [hlen, e]; rfl)
      have := hnil.2 h0
      cases this
    refine ⟨?_, .inr ⟨g, cap, putCells encU 0 (sortU ss.toArray) cur, hne, rfl, hbase, putRow_block _ hg1, by omega, ?_, ?_⟩⟩
    · exact (hlies.trans hl).put hbase _ _
    · simp only [putCells, Array.size_mapIdx]; omega
    · intro i x hx
      have hd : (sortU ss.toArray).toList = sortL l := sortU_eq hperm
      have hi : i < (sortL l).length := (List.getElem?_eq_some_iff.1 hx).1
      have hil : (sortL l).length = l.length := (sortL_perm l).length_eq
      rw [← hd, Array.getElem?_toList] at hx
      obtain ⟨hi2, hx2⟩ := Array.getElem?_eq_some_iff.1 hx
      have hic : i < cur.size := by omega
      simp only [putCells, Array.getElem?_mapIdx, Array.getElem?_eq_getElem hic, Option.map_some, Nat.zero_le, true_and, Nat.zero_add, if_pos hi2, Nat.sub_zero]
      rw [getElem!_pos _ i hi2, hx2]

end Go.Proofs.Ytglkgmomnbdkoaa
