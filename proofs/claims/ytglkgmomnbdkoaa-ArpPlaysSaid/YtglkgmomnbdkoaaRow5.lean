/- A script's bodies are not longer than a machine holds: what a law's row knows of its arguments' weights. -/
import Derived.Test.YtglkgmomnbdkoaaRow4
import Derived.SizedLaws
namespace Go.Proofs.Ytglkgmomnbdkoaa
open Go.ChangeShapes Go.WideShapes Go.ChangeAt Go.RowKit Go.Proofs Ev

section
variable {Hh : Type} {enc : TypeId × Value → Hh} {W : World} {hd : Bool} {fuel : Nat}

theorem absC_len {a p : Option Addr} {len cap l' c' : Nat} (h : absC (.slice a len cap) = some (.slice p l' c')) : l' = len := by
  unfold absC at h
  split at h <;> rename_i hq <;> try cases hq
  · cases h; rfl
  · cases hb : Nat.blt cap unk with
    | true => rw [hb] at h; cases h; rfl
    | false => rw [hb] at h; cases h
  · cases h; rfl
  · cases h

theorem bytes_len {t : TypeId} {v u : Value} {x : DataW Hh × List MemPlace} {bs : List Int} (ht : Try.prog.underlying t = some (.slice 5)) (hb : Try.prog.bytesOf 5 = 1) (h : DataW.trod enc Try.prog W 0 (fun _ => true) hd fuel t [v] = some x)
    (hw : ∀ n ∈ DataW.weights Try.prog t x.1, n ≤ reachBytes) (hu : absC v = some u) (hs : ∃ p c, u = .slice p bs.length c) : bs.length ≤ reachBytes := by
  obtain ⟨p, c, rfl⟩ := hs
  rcases DataW.trod_slice ht h with ⟨h0, -⟩ | ⟨a, len, cap, elems, rest, n, -, h0, hx, -, -, -, hlen, -, -, -⟩
  · cases h0
    have := absC_len hu
    omega
  · cases h0
    have h1 := absC_len hu
    have h2 := hw ((elems.length + rest.length) * Try.prog.bytesOf 5) (by rw [hx]; simp [DataW.weights, ht])
    have h3 : elems.length * 1 ≤ (elems.length + rest.length) * Try.prog.bytesOf 5 := Nat.mul_le_mul (by omega) (by omega)
    omega

theorem w_all {P : Program} {e : TypeId} {d : DataW Hh} {n : Nat} (hn : n ∈ d.weights P e) : ∀ {l : List (DataW Hh)}, d ∈ l → n ∈ DataW.weightsAll P e l
  | [], h => by simp at h
  | x :: l, h => by
    simp only [DataW.weightsAll, List.mem_append]
    rcases List.mem_cons.1 h with rfl | h
    · exact .inl hn
    · exact .inr (w_all hn h)

set_option maxRecDepth 100000 in
theorem script_bodies {v u : Value} {x : DataW Hh × List MemPlace} {ds : List Deed} (h : DataW.trod enc Try.prog W 0 (fun _ => true) hd fuel 23 [v] = some x) (hw : ∀ n ∈ DataW.weights Try.prog 23 x.1, n ≤ reachBytes) (hu : absC v = some u) (hs : Script W u ds) :
    ∀ d ∈ ds, d.body.length ≤ reachBytes := by
  intro d hd'
  rcases hs with ⟨rfl, rfl⟩ | ⟨b, o, c, rfl, hdx⟩
  · simp at hd'
  obtain ⟨i, hi, hdi⟩ := List.mem_iff_getElem.1 hd'
  have hdi' : ds[i]? = some d := by rw [List.getElem?_eq_getElem hi, hdi]
  have hx := hdx i d hdi'
  rcases DataW.trod_slice Try.underlying23 h with ⟨h0, -⟩ | ⟨a, len, cap, elems, rest, n, -, h0, hxe, -, -, -, hlen, hel, -, -⟩
  · cases h0
    have := absC_len hu
    omega
  · cases h0
    have h1 := absC_len hu
    obtain ⟨ab, ao, asp⟩ := a
    have has : asp = none ∧ ab = b ∧ ao = o := by
      unfold absC at hu
      split at hu <;> rename_i hq <;> try cases hq
      · cases hb : Nat.blt cap unk with
        | true => rw [hb] at hu; cases hu; exact ⟨rfl, rfl, rfl⟩
        | false => rw [hb] at hu; cases hu
      · omega
      · cases hu
    obtain ⟨rfl, rfl, rfl⟩ := has
    have he := hel i (by omega)
    rw [List.getElem?_eq_getElem (by omega), nine33] at he
    obtain ⟨cs, hcs, hcd⟩ := Option.bind_eq_some_iff.1 he
    obtain ⟨xs, n', -, hy, hl, hxl, hf⟩ := DataW.trod_struct Try.underlying33 hcd
    rw [nine33] at hl
    have g2 : ∃ y, xs[2]? = some y := ⟨xs[2]'(by simp at hxl; omega), List.getElem?_eq_getElem _⟩
    obtain ⟨y2, g2⟩ := g2
    have f2 := (hf 2 _ rfl).trans g2
    change DataW.trod enc Try.prog W 0 (fun _ => true) hd n' 29 ((cs.drop 2).take (Try.prog.cellsOf 29)) = some y2 at f2
    rw [one29] at f2
    have hv2 : ∃ v, (cs.drop 2).take 1 = [v] := by
      have : ((cs.drop 2).take 1).length = 1 := by simp; omega
      match hq : (cs.drop 2).take 1, this with
      | [v], _ => exact ⟨v, rfl⟩
    obtain ⟨v2, e2⟩ := hv2
    rw [e2] at f2
    have hc2 : W.cell? ⟨ab, ao + i * 9 + 2, none⟩ = some v2 := by
      have := cells_at hcs (j := 2) (by omega)
      rw [one_of e2, getD_cell (s := none) rfl] at this
      have e : ((⟨ab, ao + i * 9, none⟩ : Addr)).add 2 = ⟨ab, ao + i * 9 + 2, none⟩ := getD_cell rfl
      rw [e] at this
      exact this
    obtain ⟨u2, hu2, hbx, -⟩ := hx.body
    have hu2' : absC v2 = some u2 := by
      have : extOf W ab (ao + i * 9 + 2) = some u2 := hu2
      simpa only [extOf, hc2] using this
    refine bytes_len Try.underlying29 (by kernel_rfl) f2 (fun n hn => hw n ?_) hu2' (hbx.2 E0).shape
    rw [hxe]
    simp only [DataW.weights, Try.underlying23]
    refine List.mem_cons_of_mem _ (List.mem_append_left _ (w_all ?_ (List.mem_map_of_mem (List.getElem_mem (by omega : i < elems.length)))))
    rw [hy]
    simp only [DataW.weights, Try.underlying33]
    exact DataW.weights_mem_each (j := 2) (t := 29) rfl (by rw [List.getElem?_map, g2]; rfl) n hn

end

theorem seen28 : (Try.prog.underlying 28).any seen = true := by rw [Try.underlying28]; rfl

set_option maxRecDepth 100000 in
/-- A card among the arguments. -/
theorem arg28 {Hh : Type} {enc : TypeId × Value → Hh} {W : World} {base : Nat} {hd : Bool} {v : Value} {d : DataW Hh} {ps : List MemPlace} (hv : Value.okWide Try.prog W .any base 28 v) (h : DataW.Trod enc Try.prog W 0 (fun _ => true) hd 28 v d ps) :
    ∃ n, v = .int .u64 n ∧ 0 ≤ n ∧ n < 18446744073709551616 := by
  obtain ⟨u, hu⟩ := value_abs (P := Try.prog) (t := 28) seen28 hv
  obtain ⟨fuel, hf⟩ := h
  rw [cells_one hu] at hf
  obtain ⟨n, hn, -, hw⟩ := DataW.trod_int Try.underlying28 hf
  cases hn
  have := int_rng hw
  have e1 : IntKind.min .u64 = 0 := by decide
  have e2 : IntKind.max .u64 = 18446744073709551615 := by decide
  exact ⟨n, rfl, by omega, by omega⟩

set_option maxRecDepth 100000 in
/-- A script among the arguments, and its bodies. -/
theorem arg23w {Hh : Type} {enc : TypeId × Value → Hh} {W : World} {base : Nat} {hd : Bool} {v : Value} {d : DataW Hh} {ps : List MemPlace} (hv : Value.okWide Try.prog W .any base 23 v) (h : DataW.Trod enc Try.prog W 0 (fun _ => true) hd 23 v d ps)
    (hw : ∀ n ∈ DataW.weights Try.prog 23 d, n ≤ reachBytes) : ∃ u ds, absC v = some u ∧ Script W u ds ∧ ds.length ≤ maxLen ∧ ∀ d ∈ ds, d.body.length ≤ 140737488355328 := by
  obtain ⟨u, hu⟩ := value_abs (P := Try.prog) (t := 23) seen23 hv
  obtain ⟨fuel, hf⟩ := h
  rw [cells_one hu] at hf
  obtain ⟨u, ds, h1, h2, h3⟩ := trod_script hf
  refine ⟨u, ds, h1, h2, h3, fun d hd => ?_⟩
  have := script_bodies hf hw h1 h2 d hd
  have e : reachBytes = 140737488351232 := by decide
  omega

end Go.Proofs.Ytglkgmomnbdkoaa
