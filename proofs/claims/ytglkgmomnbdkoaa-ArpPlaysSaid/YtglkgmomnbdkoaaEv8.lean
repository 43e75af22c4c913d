/- Appending, copying, converting: the evaluator's and the model's. -/
import Derived.Test.YtglkgmomnbdkoaaEv7
import Derived.Laws.Append
import Derived.Laws.BytesString
namespace Go.Proofs.Ytglkgmomnbdkoaa
namespace Ev

section
variable {P : Program} {X : Ctx} {S : Base} {m : Mu} {H : Heap} {w : World}

theorem rdN_cells (hext : ExtOk X S) (hr : Rel S m H w) {a a' : Addr} {n : Nat} {l : List Value} (h : rdN X H a n = some l) (ha : AR m a a') :
    ∃ l', (loadCells a' n).run P w = .ok l'.toArray w ∧ VRs m l l' ∧ l.length = n := by
  obtain ⟨l', h1, h2, h3⟩ := rdN_ok hext hr h ha
  have hsp := ha.spot
  obtain ⟨b, o, s⟩ := a'
  simp only at hsp
  subst hsp
  exact ⟨l', run_loadCells (by rw [← h1.length, h2]) (by simpa using h3), h1, h2⟩

/-- A slice's own cells. -/
theorem cellsAt_ok (hext : ExtOk X S) (hr : Rel S m H w) {x x' : Value} {size n : Nat} {l : List Value} (h : cellsAt X H (n * size) x = some l) (hx : VR m x x')
    (hn : ∀ a L c, x = .slice a L c → n ≤ L) : ∃ l', (Builtin.firstCells size n x').run P w = .ok l'.toArray w ∧ VRs m l l' ∧ l.length = n * size := by
  unfold cellsAt at h
  have key : ∀ (a' : Addr) (L c : Nat), n * size = 0 → (Builtin.firstCells size n (.slice (some a') L c)).run P w = .ok #[] w := by
    intro a' L c h0; simp [Builtin.firstCells, h0, loadCells, loadCellsFrom]
  split at h
  · rename_i a L c
    cases hz : Nat.beq (n * size) 0 with
    | true =>
      simp only [hz, cond_true] at h
      cases h
      have hz := Nat.eq_of_beq_eq_true hz
      refine ⟨[], ?_, .nil, by simp [hz]⟩
      cases hx <;> exact key _ _ _ hz
    | false =>
      simp only [hz, cond_false] at h
      have hne : n * size ≠ 0 := by intro e; rw [e] at hz; cases hz
      have hn0 : n ≠ 0 := by intro e; subst e; simp at hne
      have hnL := hn _ _ _ rfl
      cases hx with
      | @sl b L' o o' l' c' hb ho hc =>
        have ho : o' = _ := ho.resolve_left (by omega)
        exact rdN_cells hext hr h (.here _ _ hb ho)
      | @slU b L' o o' l' c' c'' z hb hc ho hl hf =>
        have ho : o' = _ := ho.resolve_left (by omega)
        exact rdN_cells hext hr h (.here _ _ hb ho)
      | slX b o l' c' hc => exact rdN_cells hext hr h (.outside _ _)
      | slZ b o a => exact absurd hnL (by omega)
  · cases hz : Nat.beq (n * size) 0 with
    | true =>
      simp only [hz, cond_true] at h
      cases h; cases hx
      have hz := Nat.eq_of_beq_eq_true hz
      exact ⟨[], by simp [Builtin.firstCells], .nil, by simp [hz]⟩
    | false => simp [hz] at h
  · cases h

theorem srcCells_ok (hext : ExtOk X S) (hr : Rel S m H w) {x x' : Value} {size n : Nat} {l : List Value} (h : srcCells X H size n x = some l) (hx : VR m x x')
    (hn : ∀ a L c, x = .slice a L c → n ≤ L) : ∃ l', (Builtin.firstCells size n x').run P w = .ok l'.toArray w ∧ VRs m l l' ∧ l.length = n * size := by
  unfold srcCells at h
  split at h
  · rename_i s
    cases hz : Nat.beq size 1 with
    | false => simp [hz] at h
    | true =>
      simp only [hz, cond_true] at h
      have hz := Nat.eq_of_beq_eq_true hz
      subst hz
      obtain ⟨e1, e2⟩ := takeN_eq _ _ _ h
      cases hx
      have hself : ∀ l : List UInt8, VRs m (l.map fun b => Value.int .u8 (b.toNat : Int)) (l.map fun b => Value.int .u8 (b.toNat : Int)) := by
        intro l
        induction l with
        | nil => exact .nil
        | cons b l ih => exact .cons (.int _ _) ih
      refine ⟨l, ?_, ?_, ?_⟩
      · simp only [Builtin.firstCells, Sem.run_pure]
        congr 1
        apply Array.toList_inj.1
        rw [e1]
        simp [ByteArray.data_extract, List.extract_eq_take_drop]
      · rw [e1, ← List.map_take]; exact hself _
      · rw [e1, List.length_take]; simp at e2 ⊢; omega
  · exact cellsAt_ok hext hr h hx hn

theorem lenOf_ok {x x' : Value} {n : Nat} (h : lenOf x = some n) (hx : VR m x x') : (Builtin.lenOf x').run P w = .ok n w ∧ ∀ a L c, x = .slice a L c → n ≤ L := by
  cases hx <;> simp only [lenOf, reduceCtorEq] at h <;> cases h <;> (refine ⟨by simp [Builtin.lenOf], ?_⟩; intro a L c e; cases e <;> omega)

theorem room_ok {need old bytes : Nat} {cap : Nat} (h : roomOk need cap bytes = true) (hlt : old < need) (hcap : cap = old ∨ need ≤ cap) (hb : 0 < bytes) :
    Builtin.nextslicecap need old * bytes ≤ 281474976710656 ∧ (need : Int) ≤ 9223372036854775807 := by
  unfold roomOk at h
  have h := Nat.le_of_ble_eq_true h
  have h2 := nextslicecap_le hlt
  have hnb : need ≤ need * bytes := Nat.le_mul_of_pos_right need hb
  cases hc : Nat.blt (2 * cap) need with
  | true =>
    have hc' : 2 * cap < need := Nat.le_of_ble_eq_true hc
    simp only [hc, cond_true] at h
    have : cap = old := by omega
    subst this
    have : Builtin.nextslicecap need cap = need := by unfold Builtin.nextslicecap; rw [if_pos (by omega)]
    rw [this]
    exact ⟨h, by omega⟩
  | false =>
    simp only [hc, cond_false] at h
    have := Nat.mul_le_mul_right bytes h2
    have h3 : need * bytes ≤ 2 * need * bytes := Nat.mul_le_mul_right _ (by omega)
    exact ⟨by omega, by omega⟩

theorem size_zeroCells (z : Array Value) (n : Nat) : (Builtin.zeroCells z n).size = n * z.size := by simp [Builtin.zeroCells]

/-- What grows: a new row. -/
theorem grow_ok (hext : ExtOk X S) (hr : Rel S m H w) {st xt e : TypeId} {ie : TI} (hst : P.underlying st = some (.slice e)) {dx : TypeDesc} (hxt : P.underlying xt = some dx)
    (hdx : ∀ k, dx ≠ .int k) (hie : tinfo P e = some ie) {s s' x x' : Value} {base' : Option Addr} {sLen sCap' n : Nat} (hs' : s' = .slice base' sLen sCap')
    {old new : List Value} (hs : VR m s s') (hx : VR m x x') (hlen : lenOf x = some n) (hold : cellsAt X H (sLen * ie.size) s = some old) (hnew : srcCells X H ie.size n x = some new)
    (hsl : ∀ a L c, s = .slice a L c → sLen ≤ L) (hz1 : ie.zero.length = ie.size) (hz2 : 0 < ie.bytes) (cap : Nat) (hroom : roomOk (sLen + n) cap ie.bytes = true) (hcap : cap = sCap' ∨ sLen + n ≤ cap)
    (hgrow : sCap' < sLen + n) (ty : TypeId) {H0 : Heap} (hr0 : ∀ w, Rel S m H w → Rel S m H0 w) (hn0 : H0.next = H.next) (hfree : m H.next = none) :
    Makes P S H m w (Builtin.append_ #[st, xt] ty #[s', x']) (.slice (some ⟨H0.next, 0, none⟩) (sLen + n) (unk + ie.size)) (H0.alloc (.cells (old ++ new) e)) := by
  obtain ⟨hl1, hl2⟩ := lenOf_ok (P := P) (w := w) hlen hx
  have hrd : Rel S m H w.drew := hr.drew
  obtain ⟨o', ho1, ho2, ho3⟩ := cellsAt_ok (P := P) hext hrd hold hs hsl
  obtain ⟨n', hn1, hn2, hn3⟩ := srcCells_ok (P := P) hext hrd hnew hx hl2
  obtain ⟨info, h0info, h1info, hsz, hby⟩ : ∃ info, (typeInfo e).run P w = .ok info w ∧ (typeInfo e).run P w.drew = .ok info w.drew ∧ info.size = ie.size ∧ info.bytes = ie.bytes := by
    obtain ⟨info, d, z, h1, h2, h3, h4, h5, -⟩ := tinfo_spec hie
    exact ⟨info, by simp [typeInfo, h1], by simp [typeInfo, h1], h4, h5⟩
  obtain ⟨r1, r2⟩ := room_ok hroom hgrow hcap hz2
  obtain ⟨z, k1, k2, k3⟩ := run_zeroValue hie w.drew
  rw [cellsOf_eq] at k2
  have hzs : z.cells.size = ie.size := by rw [← hz1, k2]; simp
  subst hs'
  have hrow : VRs m (old ++ new) (o' ++ n') := ho2.append hn2
  have hc63 : ¬ (((sLen + n : Nat) : Int) > IntKind.i64.max ∧ (info.bytes = 0)) := by
    intro hh; rw [hby] at hh; omega
  refine ⟨_, .slice (some ⟨w.heap.size, 0, none⟩) (sLen + n) (grownCap w (sLen + n) sCap' e), _,
    .alloc hfree ⟨w.heap.size, 0, (o'.toArray ++ n'.toArray ++ Builtin.zeroCells z.cells (grownCap w (sLen + n) sCap' e - (sLen + n))).size⟩ (by rw [Heap.next_alloc, hn0]), ?_, ?_,
    hn0 ▸ alloc_rel (hr0 _ hrd) (hn0.symm ▸ hfree) hrow (c := o'.toArray ++ n'.toArray ++ Builtin.zeroCells z.cells (grownCap w (sLen + n) sCap' e - (sLen + n))) (by simp) ?_⟩
  · have hr48 : ¬ (281474976710656 < Builtin.nextslicecap (sLen + n) sCap' * info.bytes) := by rw [hby]; omega
    have hng : ¬ (sLen + n ≤ sCap') := by omega
    have hb0 : info.bytes ≠ 0 := by omega
    simp [Builtin.append_, _root_.Go.run_underlying hst, _root_.Go.run_underlying hxt, run_sizeOf hie, hl1, hng, hb0, h0info, h1info, hr48, Question.forced, ho1, hn1, k1, newRow, grownCap]
    rw [← Array.append_assoc]
    congr 2
    apply Array.toList_inj.1
    simp
  · refine .slU (L := ⟨w.heap.size, 0, (o'.toArray ++ n'.toArray ++ Builtin.zeroCells z.cells (grownCap w (sLen + n) sCap' e - (sLen + n))).size⟩) 0 0 _ _ _ ie.size (by simp [Mu.set, hn0]) rfl (.inr rfl) ?_ ?_
    · simp only [grownCap, Question.cut]; omega
    · have hcapge : sLen + n ≤ grownCap w (sLen + n) sCap' e := by simp only [grownCap, Question.cut]; omega
      have e1 := ho2.length
      have e2 := hn2.length
      simp only [Array.size_append, List.size_toArray, size_zeroCells, hzs, ← e1, ← e2, ho3, hn3]
      have : (grownCap w (sLen + n) sCap' e - (sLen + n)) * ie.size + (sLen + n) * ie.size = grownCap w (sLen + n) sCap' e * ie.size := by
        rw [← Nat.add_mul]; congr 1; omega
      rw [Nat.add_mul] at this
      omega
  · intro i v' hi
    have hlt : i < (o' ++ n').length := by
      rcases Nat.lt_or_ge i (o' ++ n').length with h' | h'
      · exact h'
      · rw [List.getElem?_eq_none h'] at hi; cases hi
    rw [Array.getElem?_append_left (by simpa using hlt)]
    simpa using hi

theorem lenOf_slice {P : Program} {w : World} (a : Option Addr) (l c : Nat) : (Builtin.lenOf (.slice a l c)).run P w = .ok l w := by simp [Builtin.lenOf]

/-- Appended in place: what the model does. -/
theorem inplace_run {st xt e : TypeId} {ie : TI} (hst : P.underlying st = some (.slice e)) {dx : TypeDesc} (hxt : P.underlying xt = some dx)
    (hdx : ∀ k, dx ≠ .int k) (hie : tinfo P e = some ie) {x' : Value} {base' : Option Addr} {sLen sCap' n : Nat} {n' : List Value} {w' : World}
    (hl : (Builtin.lenOf x').run P w = .ok n w) (hn : (Builtin.firstCells ie.size n x').run P w = .ok n'.toArray w) (hle : sLen + n ≤ sCap')
    (hst' : (match base' with | some a => storeCells (a.add (sLen * ie.size)) n' | none => pure ()).run P w = .ok () w') (ty : TypeId) :
    (Builtin.append_ #[st, xt] ty #[.slice base' sLen sCap', x']).run P w = .ok (.slice base' (sLen + n) sCap') w' := by
  cases base' with
  | none =>
    simp at hst'
    subst hst'
    simp [Builtin.append_, _root_.Go.run_underlying hst, _root_.Go.run_underlying hxt, run_sizeOf hie, hl, hle, hn]
  | some a =>
    simp only at hst'
    simp [Builtin.append_, _root_.Go.run_underlying hst, _root_.Go.run_underlying hxt, run_sizeOf hie, hl, hle, hn, hst']

theorem append_ok (htie : Tied P X) (hext : ExtOk X S) (hr : Rel S m H w) {H' : Heap} (hfree : Free H H' m) {st xt ty : TypeId} {s s' x x' v : Value} (h : append X H st xt s x = some (v, H')) (hs : VR m s s') (hx : VR m x x') :
    Makes P S H m w (Builtin.append_ #[st, xt] ty #[s', x']) v H' := by
  unfold append at h
  split at h
  · rename_i i ix base sLen sCap hi hix
    have hti := htie.tt _ _ hi
    have htx := htie.tt _ _ hix
    obtain ⟨d, d1, d2, d3, d4⟩ := run_underlying hti w
    obtain ⟨dx, x1, x2, x3, x4⟩ := run_underlying htx w
    split at h
    · cases h
    · rename_i e hk hnint
      rw [hk] at d2
      have e' := tkOf_slice d2
      subst e'
      have hdx : ∀ k, dx ≠ .int k := by
        intro k e; subst e
        exact hnint k (by rw [x2]; rfl)
      split at h
      · rename_i ie n hie hlen
        have hte := htie.tt _ _ hie
        cases hb : (Nat.blt 0 ie.size && Nat.blt 0 ie.bytes && Nat.beq ie.zero.length ie.size) with
        | false => simp [hb] at h
        | true =>
          simp only [hb, cond_true] at h
          simp only [Bool.and_eq_true] at hb
          have hb1 : 0 < ie.size := Nat.le_of_ble_eq_true hb.1.1
          have hb2 : 0 < ie.bytes := Nat.le_of_ble_eq_true hb.1.2
          have hb3 := Nat.eq_of_beq_eq_true hb.2
          obtain ⟨hl1, hl2⟩ := lenOf_ok (P := P) (w := w) hlen hx
          split at h
          · cases h
          · rename_i new hnew
            obtain ⟨n', hn1, hn2, hn3⟩ := srcCells_ok (P := P) hext hr hnew hx hl2
            have hsl : ∀ a L c, Value.slice base sLen sCap = .slice a L c → sLen ≤ L := by intro a L c e; cases e; omega
            cases hu : Nat.ble unk sCap with
            | false =>
              have hcap : sCap < unk := by
                rcases Nat.lt_or_ge sCap unk with h' | h'
                · exact h'
                · rw [Nat.ble_eq_true_of_le h'] at hu; cases hu
              simp only [hu, cond_false] at h
              unfold appendK at h
              have hs'cap : ∃ base', s' = .slice base' sLen sCap := by
                cases hs with
                | slNil => exact ⟨_, rfl⟩
                | sl => exact ⟨_, rfl⟩
                | slU _ _ _ _ _ z _ hc => omega
                | slX => exact ⟨_, rfl⟩
                | slZ => exact ⟨_, rfl⟩
              obtain ⟨base', rfl⟩ := hs'cap
              cases hle : Nat.ble (sLen + n) sCap with
              | true =>
                have hle' := Nat.le_of_ble_eq_true hle
                simp only [hle, cond_true] at h
                split at h
                · cases h
                  cases hs
                  exact ⟨m, _, w, .of_next, inplace_run d4 x4 hdx hte hl1 hn1 hle' (by simp) ty, .slNil _ _, hr⟩
                · rename_i a
                  cases hn0 : Nat.beq n 0 with
                  | true =>
                    have hn0 := Nat.eq_of_beq_eq_true hn0
                    subst hn0
                    simp only [show Nat.beq 0 0 = true from rfl, cond_true] at h
                    cases h
                    have hn'0 : n' = [] := by have := hn2.length; rw [hn3] at this; simpa using this.symm
                    subst hn'0
                    refine ⟨m, _, w, .of_next, inplace_run d4 x4 hdx hte hl1 hn1 hle' (by cases base' <;> simp [storeCells]) ty, ?_, hr⟩
                    simpa using hs
                  | false =>
                    have hn0' : n ≠ 0 := by intro e; subst e; cases hn0
                    simp only [hn0, cond_false] at h
                    split at h
                    · rename_i H1 hwr
                      cases h
                      have fin : ∀ a', AR m a a' → VR m (.slice (some a) (sLen + n) sCap) (.slice (some a') (sLen + n) sCap) →
                          Makes P S H m w (Builtin.append_ #[st, xt] ty #[.slice (some a') sLen sCap, x']) (.slice (some a) (sLen + n) sCap) H' := by
                        intro a' har hvr
                        obtain ⟨w', q1, q2, -⟩ := wrN_ok hr (P := P) hwr (har.add' (sLen * ie.size)) hn2
                        exact ⟨m, _, w', .of_next, inplace_run (base' := some a') d4 x4 hdx hte hl1 hn1 hle' q1 ty, hvr, q2⟩
                      cases hs with
                      | @sl b L o o' l c hb' ho hc =>
                        have ho : o' = _ := ho.resolve_left (by omega)
                        exact fin _ (.here _ _ hb' ho) (.sl _ _ _ _ hb' (.inr ho) hc)
                      | slU _ _ _ _ _ z _ hc => omega
                      | slX b o l c hc => exact fin _ (.outside _ _) (.slX _ _ _ _ hc)
                      | slZ b o a => exact absurd hle' (by omega)
                    · cases h
              | false =>
                have hgt : sCap < sLen + n := by
                  rcases Nat.lt_or_ge sCap (sLen + n) with h' | h'
                  · exact h'
                  · rw [Nat.ble_eq_true_of_le h'] at hle; cases hle
                simp only [hle, cond_false] at h
                cases hroom : roomOk (sLen + n) sCap ie.bytes with
                | false => simp [hroom] at h
                | true =>
                  simp only [hroom, cond_true] at h
                  split at h
                  · cases h
                  · rename_i old hold
                    cases h
                    exact grow_ok hext hr d4 x4 hdx hte rfl hs hx hlen hold hnew hsl hb3 hb2 sCap hroom (.inl rfl) hgt ty (fun _ h => h) rfl (hfree _ (Nat.le_refl _) (by simp))
            | true =>
              have hcap : unk ≤ sCap := Nat.le_of_ble_eq_true hu
              simp only [hu, cond_true] at h
              cases hz : Nat.beq sCap (unk + ie.size) with
              | false => simp [hz] at h
              | true =>
                have hcz := Nat.eq_of_beq_eq_true hz
                simp only [hz, cond_true] at h
                split at h
                · rename_i a
                  unfold appendU at h
                  split at h
                  · cases h
                  · rename_i hsp
                    cases hs with
                    | sl _ _ _ _ _ _ hc => omega
                    | slX _ _ _ _ hc => omega
                    | slZ b o a => exact absurd hcap (by unfold unk; omega)
                    | @slU b L o o' l c c' z hb' hc ho hl' hf =>
                      have hzz : z = ie.size := by omega
                      subst hzz
                      cases hn0 : Nat.beq n 0 with
                      | true =>
                        have hn0 := Nat.eq_of_beq_eq_true hn0
                        subst hn0
                        simp only [show Nat.beq 0 0 = true from rfl, cond_true] at h
                        cases h
                        have hn'0 : n' = [] := by have := hn2.length; rw [hn3] at this; simpa using this.symm
                        subst hn'0
                        refine ⟨m, _, w, .of_next, inplace_run d4 x4 hdx hte hl1 hn1 (by omega) (by simp [storeCells]) ty, ?_, hr⟩
                        exact .slU _ _ _ _ _ _ hb' hc ho hl' hf
                      | false =>
                        have hn0' : n ≠ 0 := by intro e; subst e; cases hn0
                        simp only [hn0, cond_false] at h
                        split at h
                        · rename_i lb _ hg
                          cases hroom : (roomOk (sLen + n) (sLen + n) ie.bytes && new.all one) with
                          | false => simp [hroom] at h
                          | true =>
                            simp only [hroom, cond_true] at h
                            simp only [Bool.and_eq_true] at hroom
                            split at h
                            · cases h
                            · rename_i old hold
                              cases h
                              have hfree' : m H.next = none := hfree _ (Nat.le_refl _) (by simp)
                              by_cases hin : sLen + n ≤ c'
                              · -- in place
                                obtain ⟨L', hm, cc, fz, eb, h1, h2, h3, h4, h5⟩ := hr.alive _ _ hg
                                rw [hb'] at hm; cases hm
                                obtain ⟨old', ho1, ho2, ho3⟩ := cellsAt_ok (P := P) hext hr hold (.slU _ _ _ _ _ _ hb' hc ho hl' hf) hsl
                                have hmul : (sLen + n) * ie.size ≤ c' * ie.size := Nat.mul_le_mul_right _ hin
                                have hadd : (sLen + n) * ie.size = sLen * ie.size + n * ie.size := Nat.add_mul _ _ _
                                have hlen' : n'.length = n * ie.size := by rw [← hn2.length, hn3]
                                obtain ⟨c2, k1, k2, k3⟩ := run_storeCells (P := P) (o := o' + sLen * ie.size) n' 0 w cc (hn2.all_one ▸ hroom.2) h1 (by omega) (by rw [h2]; exact h3)
                                have hlt : L.blk < w.heap.size := hr.bound _ _ hb'
                                refine ⟨m.set H.next ⟨L.blk, o', L.n⟩, .slice (some ⟨L.blk, o', none⟩) (sLen + n) c', w.withObj L.blk (.cells c2 eb fz), .alloc hfree' _ rfl, ?_, ?_, ?_⟩
                                · refine inplace_run d4 x4 hdx hte hl1 hn1 hin ?_ ty
                                  simp only [Addr.add_none]
                                  exact k1
                                · exact .slU (L := ⟨L.blk, o', L.n⟩) 0 o' _ _ _ ie.size (by simp [Mu.set]) rfl (.inr rfl) hin hf
                                · refine hr.rename hfree' hg hb' rfl (by simp [World.withObj]) (fun j hj => by rw [World.withObj_get, if_neg (by omega)]) rfl rfl rfl ?_
                                  have hol := ho2.length
                                  refine ⟨c2, fz, eb, (World.withObj_get _ _ _ _).trans (if_pos (And.intro rfl hlt)), k2.trans h2, h3, ?_, ?_⟩
                                  · simp only [List.length_append]; rw [ho3, hn3]; omega
                                  · intro i v hiv
                                    by_cases hi1 : i < old.length
                                    · rw [List.getElem?_append_left hi1] at hiv
                                      have hsl0 : sLen ≠ 0 := by intro e; subst e; simp at ho3; subst ho3; simp at hi1
                                      have hoo := ho.resolve_left hsl0
                                      -- the old cells
                                      have hold2 := hold
                                      unfold cellsAt at hold2
                                      have hne : Nat.beq (sLen * ie.size) 0 = false := by
                                        cases hq : Nat.beq (sLen * ie.size) 0 with
                                        | false => rfl
                                        | true => have := Nat.eq_of_beq_eq_true hq; omega
                                      simp only [hne, cond_false, rdN, hg] at hold2
                                      obtain ⟨q1, q2⟩ := cutN_eq hold2
                                      have hiv' : lb[o + i]? = some v := by
                                        rw [← hiv, q1, List.getElem?_take_of_lt (by omega), List.getElem?_drop]
                                      obtain ⟨v', hv', hvr⟩ := h5 _ _ hiv'
                                      refine ⟨v', ?_, hvr.mono (Mu.le_set hfree' _)⟩
                                      show c2[o' + i]? = some v'
                                      rw [k3, if_neg (by omega)]
                                      rw [← hv']; congr 1; omega
                                    · rw [List.getElem?_append_right (by omega)] at hiv
                                      obtain ⟨v', hv', hvr⟩ := hn2.get hiv
                                      refine ⟨v', ?_, hvr.mono (Mu.le_set hfree' _)⟩
                                      have hil : i - old.length < n'.length := by
                                        rcases Nat.lt_or_ge (i - old.length) n'.length with h' | h'
                                        · exact h'
                                        · rw [List.getElem?_eq_none h'] at hv'; cases hv'
                                      show c2[o' + i]? = some v'
                                      rw [k3, if_pos (by omega), ← hv']
                                      congr 1; omega
                              · refine grow_ok hext hr d4 x4 hdx hte rfl (.slU _ _ _ _ _ _ hb' hc ho hl' hf) hx hlen hold hnew hsl hb3 hb2 (sLen + n) hroom.1 (.inr (Nat.le_refl _)) (by omega) ty (H0 := H.kill b) (fun _ h => h.kill b) rfl (hfree _ (Nat.le_refl _) (by simp))
                        · cases h
                · cases h
      · cases h
    · cases h
  · cases h

end
end Ev
end Go.Proofs.Ytglkgmomnbdkoaa
