/- Laws for proofs over predicates of texts: appending, lengths, slices of slices. Nothing is said of one program here. -/
import Derived.Test.YtglkgmomnbdkoaaLib1
namespace Go.Proofs.Ytglkgmomnbdkoaa
namespace Ev

/-- The block that a slice that may grow has for its own. -/
def ob : Value → Option Nat
  | .slice (some a) _ c => if unk ≤ c then some a.block else none
  | _ => none

/-- A slice that may grow, and its cells. -/
def Own (H : Heap) (v : Value) (z n : Nat) (cs : List Value) (e : TypeId) : Prop :=
  cs.length = n * z ∧ ((n = 0 ∧ ∃ p, v = .slice p 0 0) ∨ ∃ b, v = .slice (some ⟨b, 0, none⟩) n (unk + z) ∧ b < H.next ∧ H.get b = some (.cells cs e))

theorem Own.nil (H : Heap) (p : Option Addr) (z : Nat) (e : TypeId) : Own H (.slice p 0 0) z 0 [] e := ⟨by simp, .inl ⟨rfl, p, rfl⟩⟩

theorem Own.len {H : Heap} {v : Value} {z n : Nat} {cs : List Value} {e : TypeId} (h : Own H v z n cs e) : ∃ p c, v = .slice p n c := by
  rcases h.2 with ⟨rfl, p, rfl⟩ | ⟨b, rfl, -, -⟩
  · exact ⟨_, _, rfl⟩
  · exact ⟨_, _, rfl⟩

theorem Own.kp {H H' : Heap} {S : Nat → Prop} {v : Value} {z n : Nat} {cs : List Value} {e : TypeId} (h : Own H v z n cs e) (hk : Kp S H H') (hn : ∀ b, ob v = some b → ¬ S b) : Own H' v z n cs e := by
  refine ⟨h.1, ?_⟩
  rcases h.2 with ⟨h0, p, hp⟩ | ⟨b, rfl, hb, hg⟩
  · exact .inl ⟨h0, p, hp⟩
  · refine .inr ⟨b, rfl, Nat.lt_of_lt_of_le hb hk.le, ?_⟩
    rw [hk.get b hb (hn b (by simp [ob])), hg]

theorem Own.ob_lt {H : Heap} {v : Value} {z n : Nat} {cs : List Value} {e : TypeId} (h : Own H v z n cs e) {b : Nat} (hb : ob v = some b) : b < H.next := by
  rcases h.2 with ⟨h0, p, rfl⟩ | ⟨c, rfl, hc, hg⟩
  · cases p <;> simp [ob, unk] at hb
  · simp [ob] at hb; omega

theorem Own.cells {X : Ctx} {H : Heap} {v : Value} {z n : Nat} {cs : List Value} {e : TypeId} (h : Own H v z n cs e) : cellsAt X H (n * z) v = some cs := by
  obtain ⟨hl, h⟩ := h
  rcases h with ⟨rfl, p, rfl⟩ | ⟨b, rfl, -, hg⟩
  · have : cs = [] := by simpa using hl
    subst this
    rw [Nat.zero_mul, cellsAt_zero]
  · rw [cellsAt_own hg (by omega)]; simp [← hl]

theorem roomOk_of {need cap bytes : Nat} (h : 2 * need * bytes ≤ 281474976710656) : roomOk need cap bytes = true := by
  unfold roomOk
  have h1 : need * bytes ≤ 2 * need * bytes := Nat.mul_le_mul_right _ (by omega)
  cases Nat.blt (2 * cap) need with
  | true => exact Nat.ble_eq_true_of_le (by simp only [cond_true]; omega)
  | false => exact Nat.ble_eq_true_of_le (by simp only [cond_false]; exact h)

/-- Appending to a slice that may grow. -/
theorem append_own {X : Ctx} {H : Heap} {st xt : TypeId} {i ix ie : TI} {e : TypeId} {z n nx : Nat} {cs xs : List Value} {s x : Value} (ht : X.tt.get st = some i) (hk : i.k = .slice e) (hx : X.tt.get xt = some ix)
    (hxk : ∀ k, ix.k ≠ .int k) (he : X.tt.get e = some ie) (hz : ie.size = z) (hz0 : 0 < z) (hb0 : 0 < ie.bytes) (hzero : ie.zero.length = ie.size) (hs : Own H s z n cs e) (hlen : lenOf x = some nx) (hsrc : srcCells X H z nx x = some xs)
    (hone : xs.all one = true) (hxl : xs.length = nx * z) (hroom : 2 * (n + nx) * ie.bytes ≤ 281474976710656) :
    ∃ v' H', append X H st xt s x = some (v', H') ∧ Own H' v' z (n + nx) (cs ++ xs) e ∧ Kp (fun b => ob s = some b) H H' ∧ ((ob v' = ob s ∧ H' = H ∧ v' = s ∧ nx = 0) ∨ (ob v' = some H.next ∧ H'.next = H.next + 1 ∧ nx ≠ 0 ∧ v' = .slice (some ⟨H.next, 0, none⟩) (n + nx) (unk + z))) := by
  obtain ⟨hl, hs⟩ := hs
  have e1 : Nat.blt 0 ie.size = true := Nat.ble_eq_true_of_le (by omega)
  have e2 : Nat.blt 0 ie.bytes = true := Nat.ble_eq_true_of_le hb0
  have e3 : Nat.beq ie.zero.length ie.size = true := by rw [hzero]; exact Nat.beq_refl _
  have hr := roomOk_of (cap := n + nx) hroom
  have hrk : ∀ c, roomOk (n + nx) c ie.bytes = true := fun c => roomOk_of hroom
  have main : ∀ base c, append X H st xt (.slice base n c) x = (cond (Nat.ble unk c) (cond (Nat.beq c (unk + ie.size)) (match base with
            | some a => appendU X H e ie a (.slice base n c) n nx xs
            | none => none) none) (appendK X H e ie base (.slice base n c) n c nx xs)) := by
    intro base c
    unfold append
    subst hz
    cases hq : ix.k <;> first | exact absurd hq (hxk _) | (simp only [ht, hx, hk, hq, he, hlen, e1, e2, e3, Bool.and_self, cond_true, hsrc]; cases base <;> rfl)
  rcases hs with ⟨rfl, p, rfl⟩ | ⟨b, rfl, hb, hg⟩
  · have hcs : cs = [] := by simpa using hl
    subst hcs
    have hu : Nat.ble unk 0 = false := rfl
    by_cases h0 : nx = 0
    · subst h0
      have hxs : xs = [] := by simpa using hxl
      subst hxs
      refine ⟨.slice p 0 0, H, ?_, ⟨by simp, .inl ⟨rfl, p, rfl⟩⟩, .refl _ _, .inl ⟨rfl, rfl, rfl, rfl⟩⟩
      rw [main, hu]
      simp only [cond_false, appendK]
      cases p <;> rfl
    · have h3 : Nat.ble (0 + nx) 0 = false := by
        rw [Nat.zero_add]
        cases nx with
        | zero => exact absurd rfl h0
        | succ k => rfl
      refine ⟨.slice (some ⟨H.next, 0, none⟩) (0 + nx) (unk + z), H.alloc (.cells ([] ++ xs) e), ?_, ⟨by simpa using hxl, .inr ⟨H.next, rfl, by simp, by simp⟩⟩, (Kp.refl _ _).alloc' _, .inr ⟨by simp [ob], by simp, h0, rfl⟩⟩
      rw [main, hu]
      simp only [cond_false, appendK, h3, hrk, cond_true, Nat.zero_mul, cellsAt_zero, hz]
  · have hu : Nat.ble unk (unk + z) = true := Nat.ble_eq_true_of_le (by omega)
    have hbeq : Nat.beq (unk + z) (unk + ie.size) = true := by rw [hz]; exact Nat.beq_refl _
    by_cases h0 : nx = 0
    · subst h0
      have hxs : xs = [] := by simpa using hxl
      subst hxs
      refine ⟨.slice (some ⟨b, 0, none⟩) n (unk + z), H, ?_, ⟨by simpa using hl, .inr ⟨b, by simp, hb, by simpa using hg⟩⟩, .refl _ _, .inl ⟨rfl, rfl, rfl, rfl⟩⟩
      rw [main, hu, hbeq]
      simp only [cond_true, appendU]
      rfl
    · have h3 : Nat.beq nx 0 = false := by cases nx with
        | zero => exact absurd rfl h0
        | succ k => rfl
      refine ⟨.slice (some ⟨H.next, 0, none⟩) (n + nx) (unk + z), (H.kill b).alloc (.cells (cs ++ xs) e), ?_, ⟨by simp [hl, hxl, Nat.add_mul], .inr ⟨H.next, rfl, by simp, by simp⟩⟩,
        ((Kp.refl _ _).kill' (by simp [ob])).alloc' _, .inr ⟨by simp [ob], by simp, h0, rfl⟩⟩
      have hcells : cellsAt X H (n * z) (.slice (some ⟨b, 0, none⟩) n (unk + z)) = some cs := by
        rw [cellsAt_own hg (by omega)]; simp [← hl]
      rw [main, hu, hbeq]
      simp only [cond_true, appendU, h3, cond_false, hg, hr, hone, Bool.and_self, hz, hcells]

theorem len_sl {X : Ctx} {H : Heap} {t : TypeId} {i : TI} {e : TypeId} (ht : X.tt.get t = some i) (hk : i.k = .slice e) (a : Option Addr) (n c : Nat) : builtin X H .len [t] [.slice a n c] = some (.int .i64 n, H) := by
  simp [builtin, lenV, ht, hk]

theorem len_map {X : Ctx} {H : Heap} {t : TypeId} {i : TI} {k e : TypeId} {r : Nat} {es : List MapEntry} {c : Nat} (ht : X.tt.get t = some i) (hk : i.k = .map k e) (hg : H.get r = some (.map es c)) : builtin X H .len [t] [.map (some r)] = some (.int .i64 es.length, H) := by
  simp [builtin, lenV, ht, hk, entries, hg]

theorem conv_int {X : Ctx} {H : Heap} {s d : TypeId} {is i : TI} {k k0 : IntKind} {n : Int} (hs : X.tt.get s = some is) (hd : X.tt.get d = some i) (hk : i.k = .int k) : conv X H s d (.int k0 n) = some (.int k (wrapF k n), H) := by
  simp [conv, hs, hd, hk]

/-- Letters of bytes. -/
def str8 (bs : List Int) : ByteArray := ⟨⟨bs.map fun b => UInt8.ofNat b.toNat⟩⟩

theorem bytesOf_B8 (bs : List Int) : bytesOf (B8 bs) = some (bs.map fun b => UInt8.ofNat b.toNat) := by
  induction bs with
  | nil => rfl
  | cons b bs ih => simp only [B8, List.map_cons] at ih ⊢; simp only [bytesOf, ih]

theorem conv_bs {X : Ctx} {H : Heap} {s d : TypeId} {is i ie : TI} {e : TypeId} {a : Option Addr} {n c : Nat} {bs : List Int} (hs : X.tt.get s = some is) (hd : X.tt.get d = some i) (hk : is.k = .slice e) (hk2 : i.k = .str) (he : X.tt.get e = some ie) (hke : ie.k = .int .u8)
    (hc : cellsAt X H n (.slice a n c) = some (B8 bs)) : conv X H s d (.slice a n c) = some (.string (str8 bs), H) := by
  simp [conv, hs, hd, hk, hk2, he, hke, hc, bytesOf_B8, str8]

theorem str8_inj {a b : List Int} (ha : Byt a) (hb : Byt b) (h : (str8 a).data.toList = (str8 b).data.toList) : a = b := by
  simp only [str8] at h
  induction a generalizing b with
  | nil => cases b with
    | nil => rfl
    | cons y b => simp at h
  | cons x a ih => cases b with
    | nil => simp at h
    | cons y b =>
      simp only [List.map_cons, List.cons.injEq] at h
      have hx := ha x (by simp)
      have hy := hb y (by simp)
      have h1 := congrArg UInt8.toNat h.1
      simp only [UInt8.toNat_ofNat'] at h1
      have : x = y := by
        have e1 : x.toNat % 2 ^ 8 = x.toNat := Nat.mod_eq_of_lt (by omega)
        have e2 : y.toNat % 2 ^ 8 = y.toNat := Nat.mod_eq_of_lt (by omega)
        rw [e1, e2] at h1
        omega
      rw [this, ih (fun z hz => ha z (by simp [hz])) (fun z hz => hb z (by simp [hz])) h.2]

end Ev
end Go.Proofs.Ytglkgmomnbdkoaa
