/- Maps, and all operations at once: the evaluator's and the model's. -/
import Derived.Test.YtglkgmomnbdkoaaEv9
namespace Go.Proofs.Ytglkgmomnbdkoaa
namespace Ev

section
variable {P : Program} {X : Ctx} {S : Base} {m : Mu} {H : Heap} {w : World}

inductive FR (m : Mu) : Option (Nat × Value) → Option (Nat × Value) → Prop
  | none : FR m none none
  | some (i : Nat) {v v' : Value} (h : VR m v v') : FR m (some (i, v)) (some (i, v'))

theorem keyFind_ok {kk : IntKind} {key key' : Value} (hk : VR m key key') : ∀ {es es' : List MapEntry} {i : Nat} {r : Option (Nat × Value)}, ER m es es' → keyFind key es i = some r →
    ∃ r', Instr.findNow (.int kk) key' es' i = some r' ∧ FR m r r' := by
  intro es
  induction es with
  | nil => intro es' i r he h; cases he; simp [keyFind] at h; subst h; exact ⟨none, rfl, .none⟩
  | cons e es ih =>
    intro es' i r he h
    cases he with
    | @cons _ e' _ l' hke hve hb hrest =>
      unfold keyFind at h
      split at h
      · rename_i k a k' b h1
        cases hk
        rw [h1] at hke
        generalize hq : e'.key = ek at hke
        cases hke
        split at h
        · rename_i hkk
          subst hkk
          split at h
          · rename_i hab
            cases h
            exact ⟨some (i, e'.val), by simp [Instr.findNow, Instr.sameNow, hq, hab], .some _ hve⟩
          · rename_i hab
            obtain ⟨r', q1, q2⟩ := ih hrest h
            have : (a == b) = false := by simpa using hab
            exact ⟨r', by simp [Instr.findNow, Instr.sameNow, hq, this, q1], q2⟩
        · cases h
      · cases h

theorem checkKey_int {kt : TypeId} {kk k : IntKind} {a : Int} {b : Bool} {w : World} (h : P.underlying kt = some (.int kk)) : ∀ n, (Instr.checkKey b (n + 1) kt (.int k a)).run P w = .ok () w := by
  intro n
  simp [Instr.checkKey, _root_.Go.run_underlying h]

theorem intKey_ok (htie : Tied P X) {kt : TypeId} {key key' : Value} (h : intKey X kt key = true) (hk : VR m key key') :
    ∃ kk, (underlying kt).run P w = .ok (.int kk) w ∧ ∀ b w, (Instr.checkKey b 10000 kt key').run P w = .ok () w := by
  unfold intKey at h
  split at h
  · split at h
    · rename_i i hi
      split at h
      · rename_i kk hkk
        obtain ⟨d, d1, d2, d3, d4⟩ := run_underlying (htie.tt _ _ hi) w
        rw [hkk] at d2
        have := tkOf_int d2; subst this
        refine ⟨kk, d1, ?_⟩
        intro b w
        cases hk
        exact checkKey_int d4 9999
      · cases h
    · cases h
  · cases h

theorem entries_ok (hr : Rel S m H w) {v v' : Value} {es : List MapEntry} (h : entries H v = some es) (hv : VR m v v') :
    (v = .map none ∧ v' = .map none ∧ es = []) ∨ ∃ b L c es', v = .map (some b) ∧ v' = .map (some L.blk) ∧ m b = some L ∧ H.get b = some (.map es c) ∧ w.heap[L.blk]? = some (.map es' c) ∧ ER m es es'.toList := by
  unfold entries at h
  split at h
  · cases h; cases hv; exact .inl ⟨rfl, rfl, rfl⟩
  · rename_i r
    split at h
    · rename_i es0 c hg
      cases h
      cases hv with
      | @map _ L hb =>
        obtain ⟨L', hm, es', h1, h2⟩ := hr.alive _ _ hg
        rw [hb] at hm; cases hm
        exact .inr ⟨r, L, c, es', rfl, rfl, hb, hg, h1, h2⟩
    · cases h
  · cases h

theorem run_getObj_map {w : World} {r : Nat} {es : Array MapEntry} {c : Nat} (h : w.heap[r]? = some (.map es c)) : (getObj r).run P w = .ok (.map es c) w := by
  simp only [getObj, Sem.run, h]

theorem tiVal_refl {i : TI} {z : Value} (h : tiVal i = some z) (hz : VRs m i.zero i.zero) : VR m z z := by
  unfold tiVal at h
  cases hg : i.agg with
  | true => simp [hg] at h; subst h; exact .agg hz
  | false =>
    simp only [hg, cond_false, getN_eq] at h
    obtain ⟨v', h1, h2⟩ := hz.get h
    rw [h] at h1; cases h1; exact h2

theorem lookup_ok (htie : Tied P X) (hr : Rel S m H w) {t : TypeId} {x x' key key' v : Value} {ok : Bool} (h : lookup X H t x key ok = some v) (hx : VR m x x') (hk : VR m key key')
    (hz : ∀ t i, X.tt.get t = some i → VRs m i.zero i.zero) : Gives P m w (Instr.lookup t x' key' ok) v := by
  unfold lookup at h
  split at h
  · rename_i i hi
    obtain ⟨d, d1, d2, d3, d4⟩ := run_underlying (htie.tt _ _ hi) w
    split at h
    · rename_i kt et hkm
      rw [hkm] at d2
      have := tkOf_map d2; subst this
      cases hik : intKey X kt key with
      | false => simp [hik] at h
      | true =>
        simp only [hik, cond_true] at h
        obtain ⟨kk, k1, k2⟩ := intKey_ok (w := w) htie hik hk
        split at h
        · cases h
        · rename_i es hes
          have main : ∀ es' : List MapEntry, ER m es es' → ∃ v', (do
              let (v, ok') ← match ← Instr.findKey kt key' es' with
                | some (_, v) => pure (v, true)
                | none => pure (← zeroValue et, false)
              pure (if ok then .tuple #[v, .bool ok'] else v) : Sem Value).run P w = .ok v' w ∧ VR m v v' := by
            intro es' he
            split at h
            · cases h
            · rename_i j u hf
              cases h
              obtain ⟨r', q1, q2⟩ := keyFind_ok (kk := kk) hk he hf
              cases q2 with
              | @some _ _ u' hu =>
                refine ⟨if ok then .tuple #[u', .bool true] else u', ?_, ?_⟩
                · simp [Instr.findKey, k1, q1]
                · cases ok
                  · exact hu
                  · exact .tuple (.cons hu (.cons (.bool _) .nil))
            · rename_i hf
              obtain ⟨r', q1, q2⟩ := keyFind_ok (kk := kk) hk he hf
              cases q2
              split at h
              · rename_i z hzv
                cases h
                cases hie : X.tt.get et with
                | none => simp [hie] at hzv
                | some ie =>
                  simp only [hie, Option.bind_some] at hzv
                  obtain ⟨z', z1, z2, z3⟩ := run_zeroValue (htie.tt _ _ hie) w
                  have := zero_val z2 z3 _ hzv
                  subst this
                  have hzz := tiVal_refl hzv (hz _ _ hie)
                  refine ⟨if ok then .tuple #[z, .bool false] else z, ?_, ?_⟩
                  · simp [Instr.findKey, k1, q1, z1]
                  · cases ok
                    · exact hzz
                    · exact .tuple (.cons hzz (.cons (.bool _) .nil))
              · cases h
          rcases entries_ok hr hes hx with ⟨rfl, rfl, rfl⟩ | ⟨b, L, c, es', rfl, rfl, hb, hg, h1, h2⟩
          · obtain ⟨v', q1, q2⟩ := main [] .nil
            refine ⟨v', ?_, q2⟩
            rw [← q1]
            simp [Instr.lookup, d1, k2]
            rfl
          · obtain ⟨v', q1, q2⟩ := main es'.toList h2
            refine ⟨v', ?_, q2⟩
            rw [← q1]
            simp [Instr.lookup, d1, k2, run_getObj_map h1]
            rfl
    · cases h
  · cases h

theorem run_setObj_map {w : World} {r : Nat} {es : Array MapEntry} {c : Nat} (h : w.heap[r]? = some (.map es c)) (o : Obj) : (setObj r o).run P w = .ok () (w.withObj r o) := by
  simp only [setObj, Sem.run, h, World.withObj]

theorem setMap_rel (hr : Rel S m H w) {b : Nat} {L : Loc} {B : Blk} (hg : H.get b = some B) (hb : m b = some L) {es : List MapEntry} {es' : Array MapEntry} {c : Nat} (he : ER m es es'.toList) :
    Rel S m (H.set b (.map es c)) (w.withObj L.blk (.map es' c)) := by
  have hlt := hr.bound _ _ hb
  refine hr.set hg hb (by simp [World.withObj]) (fun j hj => by rw [World.withObj_get, if_neg (by omega)]) rfl rfl rfl ?_
  exact ⟨es', by rw [World.withObj_get, if_pos ⟨rfl, hlt⟩], he⟩

theorem ER.get : ∀ {l l' : List MapEntry}, ER m l l' → ∀ {i : Nat} {e : MapEntry}, l[i]? = some e → ∃ e', l'[i]? = some e' ∧ VR m e.key e'.key
  | _, _, .nil, i, e, h => by simp at h
  | _, _, .cons a _ _ h, i, e, hi => by
    cases i with
    | zero => simp at hi; subst hi; exact ⟨_, by simp, a⟩
    | succ i => simp at hi; obtain ⟨e', h1, h2⟩ := h.get hi; exact ⟨e', by simpa using h1, h2⟩

theorem ER.append : ∀ {l l' k k' : List MapEntry}, ER m l l' → ER m k k' → ER m (l ++ k) (l' ++ k')
  | _, _, _, _, .nil, h => h
  | _, _, _, _, .cons a b c h, h' => .cons a b c (h.append h')

theorem ER.setAt {k k' v v' : Value} (hk : VR m k k') (hv : VR m v v') : ∀ {l l' : List MapEntry}, ER m l l' → ∀ (i : Nat), ER m (setAt l i k v) (setAt l' i k' v')
  | _, _, .nil, _ => .nil
  | _, _, .cons _ _ c h, 0 => .cons hk hv c h
  | _, _, .cons a b c h, i + 1 => .cons a b c (h.setAt hk hv i)

theorem ER.erase : ∀ {l l' : List MapEntry}, ER m l l' → ∀ (i : Nat), ER m (l.eraseIdx i) (l'.eraseIdx i)
  | _, _, .nil, _ => .nil
  | _, _, .cons _ _ _ h, 0 => h
  | _, _, .cons a b c h, i + 1 => .cons a b c (h.erase i)

theorem setAt_modify (k v : Value) : ∀ (l : List MapEntry) (i : Nat), setAt l i k v = l.modify i fun e => { e with key := k, val := v }
  | [], i => by simp [setAt]
  | e :: l, 0 => by simp [setAt]
  | e :: l, i + 1 => by simp [setAt, setAt_modify k v l i]

/-- Where a key is found, it is the key. -/
theorem keyFind_at {key : Value} : ∀ {es : List MapEntry} {i j : Nat} {v : Value}, keyFind key es i = some (some (j, v)) → i ≤ j ∧ ∃ e, es[j - i]? = some e ∧ e.key = key := by
  intro es
  induction es with
  | nil => intro i j v h; simp [keyFind] at h
  | cons e es ih =>
    intro i j v h
    unfold keyFind at h
    split at h
    · rename_i k a k' b h1
      split at h
      · rename_i hkk
        split at h
        · rename_i hab
          cases h
          exact ⟨Nat.le_refl _, e, by simp, by rw [h1, hkk, hab]⟩
        · obtain ⟨q1, e2, q2, q3⟩ := ih h
          refine ⟨by omega, e2, ?_, q3⟩
          have : j - i = (j - (i + 1)) + 1 := by omega
          rw [this]; simpa using q2
      · cases h
    · cases h

theorem mapUpdate_ok (htie : Tied P X) (hr : Rel S m H w) {t : TypeId} {x x' key key' v v' : Value} {H' : Heap} (h : mapUpdate X H t x key v = some H') (hx : VR m x x') (hk : VR m key key') (hv : VR m v v') :
    ∃ w', (Instr.mapUpdate t x' key' v').run P w = .ok () w' ∧ Rel S m H' w' := by
  unfold mapUpdate at h
  split at h
  · rename_i i hi
    obtain ⟨d, d1, d2, d3, d4⟩ := run_underlying (htie.tt _ _ hi) w
    split at h
    · rename_i kt et hkm
      rw [hkm] at d2
      have := tkOf_map d2; subst this
      cases hik : intKey X kt key with
      | false => simp [hik] at h
      | true =>
        simp only [hik, cond_true] at h
        obtain ⟨kk, k1, k2⟩ := intKey_ok (w := w) htie hik hk
        split at h
        · rename_i r
          split at h
          · rename_i es c hg
            cases hx with
            | @map _ L hb =>
              obtain ⟨L', hm, es', h1, h2⟩ := hr.alive _ _ hg
              rw [hb] at hm; cases hm
              split at h
              · cases h
              · rename_i j u hf
                cases h
                obtain ⟨r', q1, q2⟩ := keyFind_ok (kk := kk) hk h2 hf
                obtain ⟨-, e0, e1, e2⟩ := keyFind_at hf
                cases q2 with
                | some _ hu =>
                  refine ⟨_, ?_, setMap_rel hr hg hb (es' := es'.modify j fun e => { e with key := key', val := v' }) ?_⟩
                  · have hint : ∃ k a, key = .int k a := by
                      cases key <;> simp only [intKey, Bool.false_eq_true] at hik
                      exact ⟨_, _, rfl⟩
                    obtain ⟨ik, ia, rfl⟩ := hint
                    cases hk
                    have hkey : (((es'[j]?).map (·.key)).getD (.int ik ia)) = .int ik ia := by
                      obtain ⟨e0', g1, g2⟩ := h2.get e1
                      rw [Array.getElem?_toList] at g1
                      rw [Nat.sub_zero] at g1
                      rw [g1]
                      rw [e2] at g2
                      generalize hq : e0'.key = ek at g2
                      cases g2
                      simp [hq]
                    have hstay : ∀ w, (Instr.keyThatStays (.int ik ia) (.int ik ia)).run P w = .ok (.int ik ia) w := by
                      intro w
                      have : Instr.sameBits 10000 (.int ik ia) (.int ik ia) = true := by unfold Instr.sameBits; simp
                      simp [Instr.keyThatStays, this]
                    simp [Instr.mapUpdate, d1, k2, run_getObj_map h1, Instr.findKey, k1, q1, hkey, hstay]
                    rw [run_setObj_map h1]
                  · rw [Array.toList_modify, ← setAt_modify]
                    exact h2.setAt hk hv j
              · rename_i hf
                cases h
                obtain ⟨r', q1, q2⟩ := keyFind_ok (kk := kk) hk h2 hf
                cases q2
                refine ⟨_, ?_, setMap_rel hr hg hb (es' := es'.push { key := key', val := v', born := c }) ?_⟩
                · simp [Instr.mapUpdate, d1, k2, run_getObj_map h1, Instr.findKey, k1, q1]
                  rw [run_setObj_map h1]
                · rw [Array.toList_push]
                  exact h2.append (.cons hk hv rfl .nil)
          · cases h
        · cases h
    · cases h
  · cases h

theorem delete_ok (htie : Tied P X) (hr : Rel S m H w) {t ty : TypeId} {x x' key key' : Value} {H' : Heap} (h : delete X H t x key = some H') (hx : VR m x x') (hk : VR m key key') (ts : List TypeId) :
    ∃ w', (Builtin.delete_ (t :: ts).toArray ty #[x', key']).run P w = .ok (.tuple #[]) w' ∧ Rel S m H' w' := by
  unfold delete at h
  split at h
  · rename_i i hi
    obtain ⟨d, d1, d2, d3, d4⟩ := run_underlying (htie.tt _ _ hi) w
    split at h
    · rename_i kt et hkm
      rw [hkm] at d2
      have := tkOf_map d2; subst this
      cases hik : intKey X kt key with
      | false => simp [hik] at h
      | true =>
        simp only [hik, cond_true] at h
        obtain ⟨kk, k1, k2⟩ := intKey_ok (w := w) htie hik hk
        split at h
        · rename_i r
          split at h
          · rename_i es c hg
            cases hx with
            | @map _ L hb =>
              obtain ⟨L', hm, es', h1, h2⟩ := hr.alive _ _ hg
              rw [hb] at hm; cases hm
              split at h
              · cases h
              · rename_i j u hf
                cases h
                obtain ⟨r', q1, q2⟩ := keyFind_ok (kk := kk) hk h2 hf
                cases q2 with
                | some _ hu =>
                  refine ⟨_, ?_, setMap_rel hr hg hb (es' := es'.eraseIdxIfInBounds j) ?_⟩
                  · simp [Builtin.delete_, d1, k2, run_getObj_map h1, Instr.findKey, k1, q1]
                    rw [run_setObj_map h1]
                    rfl
                  · have : (es'.eraseIdxIfInBounds j).toList = es'.toList.eraseIdx j := by simp
                    rw [this]
                    exact h2.erase j
              · rename_i hf
                cases h
                obtain ⟨r', q1, q2⟩ := keyFind_ok (kk := kk) hk h2 hf
                cases q2
                refine ⟨w.withObj L.blk (.map es' c), ?_, ?_⟩
                · simp [Builtin.delete_, d1, k2, run_getObj_map h1, Instr.findKey, k1, q1]
                  rw [run_setObj_map h1]
                  rfl
                · have : w.withObj L.blk (.map es' c) = w := by
                    have hlt := hr.bound _ _ hb
                    unfold World.withObj
                    have : w.heap.setIfInBounds L.blk (.map es' c) = w.heap := by
                      apply Array.ext_getElem?
                      intro j
                      rw [Array.getElem?_setIfInBounds]
                      by_cases hj : L.blk = j
                      · subst hj; rw [if_pos rfl, if_pos hlt, h1]
                      · simp [hj]
                    rw [this]
                  rw [this]; exact hr
          · cases h
        · cases h
    · cases h
  · cases h

theorem lenV_ok (htie : Tied P X) (hr : Rel S m H w) {t ty : TypeId} {x x' v : Value} (h : lenV X H t x = some v) (hx : VR m x x') (ts : List TypeId) :
    Gives P m w (Builtin.len_ (t :: ts).toArray ty #[x']) v := by
  unfold lenV at h
  split at h
  · rename_i i hi
    obtain ⟨d, d1, d2, d3, d4⟩ := run_underlying (htie.tt _ _ hi) w
    split at h
    · rename_i hk
      rw [hk] at d2
      have := tkOf_str d2; subst this
      cases hx; cases h
      exact ⟨_, by simp [Builtin.len_, d1, goInt], .int _ _⟩
    · rename_i hk
      rw [hk] at d2
      have := tkOf_arr d2; subst this
      cases h
      exact ⟨_, by simp [Builtin.len_, d1, goInt], .int _ _⟩
    · rename_i hk
      rw [hk] at d2
      have := tkOf_slice d2; subst this
      cases h
      cases hx <;> exact ⟨_, by simp [Builtin.len_, d1, goInt], .int _ _⟩
    · rename_i hk
      rw [hk] at d2
      have := tkOf_map d2; subst this
      split at h
      · rename_i es hes
        cases h
        rcases entries_ok hr hes hx with ⟨rfl, rfl, rfl⟩ | ⟨b, L, c, es', rfl, rfl, hb, hg, h1, h2⟩
        · exact ⟨_, by simp [Builtin.len_, d1, goInt], .int _ _⟩
        · refine ⟨.int .i64 (es'.size : Nat), by simp [Builtin.len_, d1, goInt, run_getObj_map h1], ?_⟩
          have := h2.length
          simp at this
          rw [this]; exact .int _ _
      · cases h
    · cases h
  · cases h

end
end Ev
end Go.Proofs.Ytglkgmomnbdkoaa
