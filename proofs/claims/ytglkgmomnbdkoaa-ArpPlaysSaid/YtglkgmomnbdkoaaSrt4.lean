/- slices.Sort at uint32, where there are no more than twelve. -/
import Derived.Test.YtglkgmomnbdkoaaSrt3
import Derived.Test.YtglkgmomnbdkoaaTab
namespace Go.Proofs.Ytglkgmomnbdkoaa
open Go.RowKit Go.Sort Go.Proofs Ev

/-- A world in which all that lay lies as it lay. -/
structure Lies (w w' : World) : Prop where
  size : w.heap.size ≤ w'.heap.size
  old : ∀ b, b < w.heap.size → w'.heap[b]? = w.heap[b]?
  os : w'.os = w.os
  out : w'.output = w.output
  tape : w'.tape = w.tape

theorem Lies.refl (w : World) : Lies w w := ⟨Nat.le_refl _, fun _ _ => rfl, rfl, rfl, rfl⟩

noncomputable def X1 : Ctx := Tab.ctx (fun _ _ => none) (fun _ => none)
def E0 : Heap := ⟨.leaf, 0⟩

theorem rel_whole (w : World) : Rel (whole w) (fun _ => none) E0 w :=
  ⟨fun _ _ => rfl, (fun b B h => by cases h), (fun i j Bi Bj Li Lj h => by cases h), (fun b L h => by cases h), (fun b B L h => by cases h), (fun b h => ⟨h, rfl⟩), rfl, rfl, rfl⟩

theorem Ev.Rel.lies {w w' : World} {m : Mu} {H : Heap} (h : Rel (whole w) m H w') : Lies w w' := by
  refine ⟨?_, fun b hb => (h.kept b hb).2, h.os, h.out, h.tape⟩
  rcases Nat.lt_or_ge w'.heap.size w.heap.size with h' | h'
  · have := (h.kept _ h').1; omega
  · exact h'

set_option maxRecDepth 100000 in
theorem len_run (n : Nat) (hn : n ≤ 12) : ∃ k, callN X1 60 65 [.int .u64 n] E0 = some (.int .i64 k, E0) := by
  match n, hn with
  | 0, _ => exact ⟨0, by kernel_rfl⟩
  | 1, _ => exact ⟨1, by kernel_rfl⟩
  | 2, _ => exact ⟨2, by kernel_rfl⟩
  | 3, _ => exact ⟨2, by kernel_rfl⟩
  | 4, _ => exact ⟨3, by kernel_rfl⟩
  | 5, _ => exact ⟨3, by kernel_rfl⟩
  | 6, _ => exact ⟨3, by kernel_rfl⟩
  | 7, _ => exact ⟨3, by kernel_rfl⟩
  | 8, _ => exact ⟨4, by kernel_rfl⟩
  | 9, _ => exact ⟨4, by kernel_rfl⟩
  | 10, _ => exact ⟨4, by kernel_rfl⟩
  | 11, _ => exact ⟨4, by kernel_rfl⟩
  | 12, _ => exact ⟨4, by kernel_rfl⟩
  | _ + 13, h => omega

theorem bitsLen (n : Nat) (hn : n ≤ 12) (w : World) : Calls Try.prog 65 #[.int .u64 n] w fun e w' => (∃ k, e = .returned (.int .i64 k)) ∧ Lies w w' := by
  obtain ⟨k, hk⟩ := len_run n hn
  obtain ⟨-, h⟩ := Tabs.call (X := X1) Tab.tabs (fun f s h => by cases h) 60 65 _ _ _ _ hk
  have := (h (whole w) (fun _ => none) w #[.int .u64 n] ⟨fun b o v hv => by cases hv⟩ (rel_whole w) (fun _ _ _ => rfl) (.cons (.int _ _) .nil)).2
  refine this.mono ?_
  rintro e w' ⟨m', v', rfl, -, hv, hr⟩
  cases hv
  exact ⟨⟨k, rfl⟩, hr.lies⟩

theorem Lies.holds {w w' : World} (h : Lies w w') {blk off : Nat} {d : Array Int} (hb : blk < w.heap.size) (hH : Holds encU w blk off d) : Holds encU w' blk off d := fun j hj => by
  have := hH j hj
  rw [World.cell?_of_block (a := ⟨blk, off + j, none⟩) (h.old blk hb), World.frozen?_of_block (a := ⟨blk, off + j, none⟩) (h.old blk hb)]
  exact this

set_option maxHeartbeats 4000000 in
set_option maxRecDepth 1000000 in
theorem pdq_u (blk off cap : Nat) (k : Int) (d : Array Int) (w : World) (hH : Holds encU w blk off d) (hsz : d.size ≤ 12) :
    Calls Try.prog 64 #[.slice (some ⟨blk, off, none⟩) d.size cap, .int .i64 0, .int .i64 d.size, .int .i64 k] w fun e w' =>
      e = .returned (.tuple #[]) ∧ ∃ n, w' = putRow encU (Sort.ahead w n) blk off (Sort.insertionSort ltInt d 0 d.size) := by
  go_enter Try.func64, Try.ntmps64
  go_wp2
  refine wp_loop_rounds 1 ?_
  rw [rounds_succ]
  go_wp2_with (go_at_call 71; refine (insertion_u blk off cap 0 d.size d w hH (by omega) (by omega) (by omega)).mono ?_; rintro e w' ⟨rfl, n, rfl⟩)
  refine bodyPost_ret (results_none rfl _ _ _) rfl ?_
  exact ⟨rfl, n, rfl⟩

/-- What is sorted. -/
def sortU (d : Array Int) : Array Int := Sort.insertionSort ltInt d 0 d.size

set_option maxHeartbeats 4000000 in
set_option maxRecDepth 1000000 in
theorem sort_u (blk off cap : Nat) (d : Array Int) (w : World) (hb : blk < w.heap.size) (hH : Holds encU w blk off d) (hsz : d.size ≤ 12) :
    Calls Try.prog 53 #[.slice (some ⟨blk, off, none⟩) d.size cap] w fun e w' =>
      e = .returned (.tuple #[]) ∧ ∃ w1 n, Lies w w1 ∧ w' = putRow encU (Sort.ahead w1 n) blk off (sortU d) := by
  go_enter Try.func53, Try.ntmps53
  go_wp2_with (first
    | (go_at_call 65; refine (bitsLen d.size hsz w).mono ?_; rintro e w1 ⟨⟨k, rfl⟩, hl⟩)
    | (go_at_call 64; refine (pdq_u blk off cap k d w1 (hl.holds hb hH) hsz).mono ?_; rintro e w' ⟨rfl, n, rfl⟩))
  go_end0
  exact ⟨rfl, w1, n, hl, rfl⟩

set_option maxHeartbeats 1000000 in
theorem insertion_nil (cap : Nat) (w : World) : Calls Try.prog 71 #[.slice none 0 cap, .int .i64 0, .int .i64 0] w fun e w' => e = .returned (.tuple #[]) ∧ w' = w := by
  go_enter Try.func71, Try.ntmps71
  go_wp2
  refine wp_loop_rounds 1 ?_
  rw [rounds_succ]
  go_wp2
  go_end0
  exact ⟨rfl, rfl⟩

set_option maxHeartbeats 4000000 in
set_option maxRecDepth 1000000 in
theorem pdq_nil (cap : Nat) (k : Int) (w : World) : Calls Try.prog 64 #[.slice none 0 cap, .int .i64 0, .int .i64 0, .int .i64 k] w fun e w' => e = .returned (.tuple #[]) ∧ w' = w := by
  go_enter Try.func64, Try.ntmps64
  go_wp2
  refine wp_loop_rounds 1 ?_
  rw [rounds_succ]
  go_wp2_with (go_at_call 71; refine (insertion_nil cap w).mono ?_; rintro e w' ⟨rfl, rfl⟩)
  refine bodyPost_ret (results_none rfl _ _ _) rfl ?_
  exact ⟨rfl, rfl⟩

set_option maxHeartbeats 4000000 in
set_option maxRecDepth 1000000 in
theorem sort_nil (cap : Nat) (w : World) : Calls Try.prog 53 #[.slice none 0 cap] w fun e w' => e = .returned (.tuple #[]) ∧ Lies w w' := by
  go_enter Try.func53, Try.ntmps53
  go_wp2_with (first
    | (go_at_call 65; refine (bitsLen 0 (by omega) w).mono ?_; rintro e w1 ⟨⟨k, rfl⟩, hl⟩)
    | (go_at_call 64; refine (pdq_nil cap k w1).mono ?_; rintro e w' ⟨rfl, rfl⟩))
  go_end0
  exact ⟨rfl, hl⟩

end Go.Proofs.Ytglkgmomnbdkoaa
