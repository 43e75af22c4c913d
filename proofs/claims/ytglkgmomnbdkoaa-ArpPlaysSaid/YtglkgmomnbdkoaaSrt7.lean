/- The contract of slices.Sorted(maps.Keys(m)) at uint32, as the evaluator takes it. -/
import Derived.Test.YtglkgmomnbdkoaaSrt6
namespace Go.Proofs.Ytglkgmomnbdkoaa
open Go.Proofs Ev

noncomputable def sortedK (ks : List Int) (H : Heap) : Option (Value × Heap) :=
  match ks with
  | [] => some (.slice none 0 0, H)
  | _ :: _ => some (.slice (some ⟨H.next, 0, none⟩) ks.length (unk + 1), H.alloc (.cells ((sortL ks).map fun n => .int .u32 n) 22))

noncomputable def sortedS : List Value → Heap → Option (Value × Heap)
  | [.func (.func g) a c], H => match Nat.beq g 54, a.toList, c.toList with
    | true, [], [.pointer (some ⟨bx, o, none⟩)] => match H.get bx with
      | some (.cells l _) => match getN l o with
        | some (.map (some b)) => match H.get b with
          | some (.map es clock) => match keysU clock es with
            | some ks => cond (Nat.ble ks.length 12) (sortedK ks H) none
            | none => none
          | _ => none
        | _ => none
      | _ => none
    | _, _, _ => none
  | _, _ => none

theorem sortedS_inv {args : List Value} {H H' : Heap} {v : Value} (h : sortedS args H = some (v, H')) :
    ∃ a c bx o l e b es clock ks, args = [.func (.func 54) a c] ∧ a.toList = [] ∧ c.toList = [.pointer (some ⟨bx, o, none⟩)] ∧ H.get bx = some (.cells l e) ∧ l[o]? = some (.map (some b)) ∧ H.get b = some (.map es clock) ∧
      keysU clock es = some ks ∧ ks.length ≤ 12 ∧ sortedK ks H = some (v, H') := by
  unfold sortedS at h
  split at h
  · rename_i g a c
    split at h
    · rename_i bx o h1 h2 h3
      split at h
      · rename_i l e h4
        split at h
        · rename_i b h5
          split at h
          · rename_i es clock h6
            split at h
            · rename_i ks h7
              cases hb : Nat.ble ks.length 12 with
              | false => rw [hb] at h; cases h
              | true =>
                rw [hb] at h
                rw [getN_eq] at h5
                have := Nat.eq_of_beq_eq_true h1
                subst this
                exact ⟨a, c, bx, o, l, e, b, es, clock, ks, rfl, h2, h3, h4, h5, h6, h7, Nat.le_of_ble_eq_true hb, h⟩
            · cases h
          · cases h
        · cases h
      · cases h
    · cases h
  · cases h

theorem sortedS_ok (X : Ctx) : CallOk Try.prog X (fun g args H => cond (Nat.beq g 40) (sortedS args H) none) := by
  intro f args H v H' h
  simp only at h
  cases hf : Nat.beq f 40 with
  | false => rw [hf] at h; cases h
  | true =>
    have := Nat.eq_of_beq_eq_true hf
    subst this
    simp only [hf, cond_true] at h
    obtain ⟨a, c, bx, o, l, e, b, es, clock, ks, rfl, h2, h3, h4, h5, h6, h7, h8, h9⟩ := sortedS_inv h
    refine ⟨?_, ?_⟩
    · unfold sortedK at h9
      split at h9
      · cases h9; exact Up.refl _
      · cases h9; exact Up.alloc _ _
    · intro S m w args' hext hr hfree hargs
      refine ⟨⟨Try.f40, Try.func40, rfl, by kernel_rfl⟩, ?_⟩
      -- the arguments
      obtain ⟨v0, hv0, hv⟩ : ∃ v0, args' = #[v0] ∧ VR m (.func (.func 54) a c) v0 := by
        obtain ⟨l'⟩ := args'
        cases hargs with
        | cons hx hl => cases hl with
          | nil => exact ⟨_, rfl, hx⟩
      subst hv0
      cases hv with
      | @func _ _ a2 _ c2 ha hc =>
        rw [h2] at ha; rw [h3] at hc
        have ea : a2 = #[] := by
          obtain ⟨l'⟩ := a2
          cases ha; rfl
        subst ea
        obtain ⟨v1, ec, hp⟩ : ∃ v1, c2 = #[v1] ∧ VR m (.pointer (some ⟨bx, o, none⟩)) v1 := by
          obtain ⟨l'⟩ := c2
          cases hc with
          | cons hx hl => cases hl with
            | nil => exact ⟨_, rfl, hx⟩
        subst ec
        obtain ⟨L, hm, rfl⟩ : ∃ L, m bx = some L ∧ v1 = .pointer (some ⟨L.blk, L.sh + o, none⟩) := by
          cases hp with
          | @ptr _ L _ o' hm ho => subst ho; exact ⟨L, hm, rfl⟩
        -- the box
        obtain ⟨L', hL', hBR⟩ := hr.alive bx _ h4
        rw [hm] at hL'; cases hL'
        obtain ⟨cs, fz, e', g1, g2, g3, g4, g5⟩ := hBR
        obtain ⟨mv, g6, g7⟩ := g5 o _ h5
        obtain ⟨L2, hm2, rfl⟩ : ∃ L2, m b = some L2 ∧ mv = .map (some L2.blk) := by
          cases g7 with
          | @map _ L2 hm2 => exact ⟨L2, hm2, rfl⟩
        -- the map
        obtain ⟨L3, hL3, es', k1, k2⟩ := hr.alive b _ h6
        rw [hm2] at hL3; cases hL3
        obtain ⟨hK, -⟩ := keysU_ok h7 k2
        have hcell : w.cell? ⟨L.blk, L.sh + o, none⟩ = some (.map (some L2.blk)) := by
          simp [World.cell?, g1, g6]
        refine (sorted_u L.blk (L.sh + o) L2.blk es' clock ks w hcell k1 hK h8).mono ?_
        rintro en w' ⟨hl, ⟨rfl, rfl⟩ | ⟨g, cap, cur, q0, rfl, q1, q2, q3, q4, q5⟩⟩
        · simp only [sortedK] at h9
          cases h9
          exact ⟨m, _, rfl, .refl _ _, .slNil _ _, hr.still m.le_refl hl.old hl.size (fun b L hb => Nat.lt_of_lt_of_le (hr.bound b L hb) hl.size) hl.os hl.out hl.tape⟩
        · cases ks with
          | nil =>
            exact absurd rfl q0
          | cons k0 kr =>
            simp only [sortedK] at h9
            cases h9
            have hnone : m H.next = none := hfree H.next (Nat.le_refl _) (by simp)
            let m' := m.set H.next ⟨g, 0, cap⟩
            have hle : m.le m' := Mu.le_set hnone _
            have hnew : m' H.next = some ⟨g, 0, cap⟩ := by simp [m', Mu.set]
            have hgs : g < w'.heap.size := (Array.getElem?_eq_some_iff.1 q2).1
            have hstill : Rel S m' H w' := hr.still hle hl.old hl.size (fun b0 L0 hb0 => by
              simp only [m', Mu.set] at hb0
              split at hb0
              · cases hb0; exact hgs
              · exact Nat.lt_of_lt_of_le (hr.bound _ _ hb0) hl.size) hl.os hl.out hl.tape
            have hlen : (sortL (k0 :: kr)).length = (k0 :: kr).length := (sortL_perm _).length_eq
            have hmade : Made S m' w' H.next (.cells ((sortL (k0 :: kr)).map fun n => .int .u32 n) 22) ⟨g, 0, cap⟩ := by
              refine ⟨hnew, ⟨cur, (0, 0), 22, q2, q4, .inl rfl, ?_, ?_⟩, fun hk => ?_⟩
              · simp only [List.length_map, Nat.zero_add]; omega
              · intro i x hx
                rw [List.getElem?_map] at hx
                obtain ⟨n, hn, rfl⟩ := Option.map_eq_some_iff.1 hx
                exact ⟨_, by simpa using q5 i n hn, .int _ _⟩
              · have := (hr.kept g hk).1; omega
            refine ⟨m', _, rfl, Grow.alloc hnone _ (by simp), ?_, hstill.absorb hmade ?_⟩
            · exact .slU 0 0 _ _ cap 1 hnew rfl (.inr rfl) q3 (by simp)
            · intro b0 B0 L0 hb0 hm0 e0
              obtain ⟨L1, hL1, -⟩ := hr.alive b0 B0 hb0
              have := hle _ _ hL1
              rw [hm0] at this; cases this
              have := hr.bound _ _ hL1
              simp only at e0
              omega

end Go.Proofs.Ytglkgmomnbdkoaa
