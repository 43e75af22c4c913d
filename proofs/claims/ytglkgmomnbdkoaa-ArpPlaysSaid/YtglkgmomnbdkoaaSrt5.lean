/- slices.Sorted(maps.Keys(m)) at uint32: its contract for the evaluator. -/
import Derived.Test.YtglkgmomnbdkoaaSrt2
import Derived.Test.YtglkgmomnbdkoaaSrt4
namespace Go.Proofs.Ytglkgmomnbdkoaa
open Go.RowKit Go.Sort Go.Maps Go.Proofs Ev

/-! ### Sorted lists, plainly -/

def insU (x : Int) : List Int → List Int
  | [] => [x]
  | y :: l => cond (decide (x ≤ y)) (x :: y :: l) (y :: insU x l)

def sortL : List Int → List Int
  | [] => []
  | x :: l => insU x (sortL l)

theorem insU_perm (x : Int) : ∀ l, (insU x l).Perm (x :: l)
  | [] => .refl _
  | y :: l => by
    unfold insU
    cases decide (x ≤ y) with
    | true => exact .refl _
    | false => exact ((insU_perm x l).cons y).trans (.swap x y l)

theorem sortL_perm : ∀ l, (sortL l).Perm l
  | [] => .refl _
  | x :: l => (insU_perm x _).trans ((sortL_perm l).cons x)

theorem insU_sorted (x : Int) : ∀ l : List Int, l.Pairwise (· ≤ ·) → (insU x l).Pairwise (· ≤ ·)
  | [], _ => by simp [insU]
  | y :: l, h => by
    obtain ⟨h1, h2⟩ := List.pairwise_cons.1 h
    unfold insU
    by_cases hxy : x ≤ y
    · simp only [hxy, decide_true, cond_true]
      refine List.pairwise_cons.2 ⟨fun z hz => ?_, h⟩
      rcases List.mem_cons.1 hz with rfl | hz
      · exact hxy
      · exact Int.le_trans hxy (h1 z hz)
    · simp only [hxy, decide_false, cond_false]
      refine List.pairwise_cons.2 ⟨fun z hz => ?_, insU_sorted x l h2⟩
      rcases List.mem_cons.1 ((insU_perm x l).mem_iff.1 hz) with rfl | hz
      · omega
      · exact h1 z hz

theorem sortL_sorted : ∀ l, (sortL l).Pairwise (· ≤ ·)
  | [] => List.Pairwise.nil
  | x :: l => insU_sorted x _ (sortL_sorted l)

theorem sortL_of_perm {l k : List Int} (h : l.Perm k) (hs : l.Pairwise (· ≤ ·)) : l = sortL k :=
  List.Perm.eq_of_pairwise (le := fun a b : Int => a ≤ b) (fun _ _ _ _ h1 h2 => Int.le_antisymm h1 h2) hs (sortL_sorted k) (h.trans (sortL_perm k).symm)

theorem sortU_eq {ss k : List Int} (h : ss.Perm k) : (sortU ss.toArray).toList = sortL k := by
  have hI := insertionSort_holds swo_ltInt ss.toArray 0 ss.toArray.size (Nat.zero_le _) (Nat.le_refl _)
  obtain ⟨hP, hS⟩ := hI
  change Sort.PermIn 0 _ _ (sortU ss.toArray) at hP
  change Sort.SortedIn ltInt 0 _ (sortU ss.toArray) at hS
  generalize hd : sortU ss.toArray = d at hP hS
  obtain ⟨h1, -, h3⟩ := hP
  have hp : d.toList.Perm ss := by
    have e1 : d.extract 0 ss.toArray.size = d := by rw [← h1]; simp
    have e2 : ss.toArray.extract 0 ss.toArray.size = ss.toArray := by simp
    rw [e1, e2] at h3
    simpa using h3
  refine sortL_of_perm (hp.trans h) ?_
  rw [List.pairwise_iff_getElem]
  intro i j hi hj hij
  simp only [Array.length_toList] at hi hj
  have := hS i j (Nat.zero_le _) hij (by omega)
  rw [getElem!_pos d j (by omega), getElem!_pos d i (by omega)] at this
  simp only [ltInt, decide_eq_false_iff_not] at this
  simp only [Array.getElem_toList]
  omega

theorem sortU_size (d : Array Int) : (sortU d).size = d.size :=
  (insertionSort_holds swo_ltInt d 0 d.size (Nat.zero_le _) (Nat.le_refl _)).1.1

/-! ### The keys of an abstract map -/

def keyU : Value → Option Int
  | .int .u32 n => cond ((Lit.int .u32 n).wf) (some n) none
  | _ => none

def notIn (n : Int) : List Int → Bool
  | [] => true
  | x :: l => !(decide (n = x)) && notIn n l

def notBorn (n : Nat) : List MapEntry → Bool
  | [] => true
  | e :: l => !(Nat.beq n e.born) && notBorn n l

/-- The keys of a map that is as a map is. -/
def keysU (clock : Nat) : List MapEntry → Option (List Int)
  | [] => some []
  | e :: es => match keyU e.key, keysU clock es with
    | some n, some l => cond (notIn n l && notBorn e.born es && Nat.blt e.born clock) (some (n :: l)) none
    | _, _ => none

theorem keyU_eq {v : Value} {n : Int} (h : keyU v = some n) : v = .int .u32 n ∧ (Lit.int .u32 n).wf = true := by
  unfold keyU at h
  split at h
  · rename_i k
    cases hw : (Lit.int .u32 k).wf with
    | true => rw [hw] at h; cases h; exact ⟨rfl, hw⟩
    | false => rw [hw] at h; cases h
  · cases h

theorem notIn_eq {n : Int} : ∀ {l : List Int}, notIn n l = true → n ∉ l
  | [], _ => by simp
  | x :: l, h => by
    simp only [notIn, Bool.and_eq_true, Bool.not_eq_true', decide_eq_false_iff_not] at h
    simp only [List.mem_cons, not_or]
    exact ⟨h.1, notIn_eq h.2⟩

theorem notBorn_eq {n : Nat} : ∀ {l : List MapEntry}, notBorn n l = true → ∀ e ∈ l, e.born ≠ n
  | [], _, e, he => by cases he
  | x :: l, h, e, he => by
    simp only [notBorn, Bool.and_eq_true, Bool.not_eq_true'] at h
    rcases List.mem_cons.1 he with rfl | he
    · intro e'; rw [e'] at h; simp at h
    · exact notBorn_eq h.2 e he

/-- What the keys' list says of the entries in the world. -/
structure Keyeds (clock : Nat) (l : List Int) (es : List MapEntry) : Prop where
  keys : es.map (·.key) = l.map (Value.int .u32)
  wf : ∀ n ∈ l, (Lit.int .u32 n).wf = true
  nodup : l.Nodup
  born : ∀ e ∈ es, e.born < clock
  once : (es.map (·.born)).Nodup

theorem keysU_ok {m : Mu} {clock : Nat} : ∀ {es es' : List MapEntry} {l : List Int}, keysU clock es = some l → ER m es es' → Keyeds clock l es' ∧ es'.map (·.born) = es.map (·.born)
  | [], _, l, h, .nil => by simp only [keysU] at h; cases h; exact ⟨⟨rfl, by simp, by simp, by simp, by simp⟩, rfl⟩
  | e :: es, _, l, h, .cons (e' := e') (l' := es') hk hv hb hr => by
    simp only [keysU] at h
    split at h
    · rename_i n l0 h1 h2
      cases hc : notIn n l0 && notBorn e.born es && Nat.blt e.born clock with
      | false => rw [hc] at h; cases h
      | true =>
        rw [hc] at h
        simp only [cond_true] at h
        cases h
        simp only [Bool.and_eq_true] at hc
        obtain ⟨ih, ihb⟩ := keysU_ok h2 hr
        obtain ⟨k1, k2⟩ := keyU_eq h1
        rw [k1] at hk
        have hk' : e'.key = .int .u32 n := by generalize e'.key = q at hk; cases hk; rfl
        have hbn : ∀ b ∈ es.map (·.born), b ≠ e.born := by
          intro b hb'
          obtain ⟨x, hx, rfl⟩ := List.mem_map.1 hb'
          exact notBorn_eq hc.1.2 x hx
        refine ⟨⟨by simp [hk', ih.keys], ?_, List.nodup_cons.2 ⟨notIn_eq hc.1.1, ih.nodup⟩, ?_, ?_⟩, by simp [hb, ihb]⟩
        · intro x hx
          rcases List.mem_cons.1 hx with rfl | hx
          · exact k2
          · exact ih.wf x hx
        · intro x hx
          rcases List.mem_cons.1 hx with rfl | hx
          · rw [← hb]; exact Nat.le_of_ble_eq_true hc.2
          · exact ih.born x hx
        · rw [List.map_cons, List.nodup_cons]
          refine ⟨fun hx => ?_, ih.once⟩
          rw [ihb] at hx
          exact hbn _ hx hb.symm
    · cases h

end Go.Proofs.Ytglkgmomnbdkoaa
