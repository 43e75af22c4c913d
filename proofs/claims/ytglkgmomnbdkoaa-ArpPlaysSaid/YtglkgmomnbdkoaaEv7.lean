/- Operations that make memory: the evaluator's and the model's. -/
import Derived.Test.YtglkgmomnbdkoaaEv6
namespace Go.Proofs.Ytglkgmomnbdkoaa
namespace Ev

def Makes (P : Program) (S : Base) (H : Heap) (m : Mu) (w : World) (s : Sem Value) (v : Value) (H' : Heap) : Prop :=
  ∃ m' v' w', Grow H H' m m' ∧ s.run P w = .ok v' w' ∧ VR m' v v' ∧ Rel S m' H' w'

theorem Gives.makes {P : Program} {S : Base} {m : Mu} {w : World} {s : Sem Value} {v : Value} {H : Heap} (h : Gives P m w s v) (hr : Rel S m H w) : Makes P S H m w s v H :=
  let ⟨v', h1, h2⟩ := h
  ⟨m, v', w, .refl H m, h1, h2, hr⟩

theorem alloc_rel {S : Base} {m : Mu} {H : Heap} {w : World} (hr : Rel S m H w) (hfree : m H.next = none) {vs vs' : List Value} (hv : VRs m vs vs') {c : Array Value} {e : TypeId} (hlen : vs'.length ≤ c.size)
    (hc : ∀ (i : Nat) (v' : Value), vs'[i]? = some v' → c[i]? = some v') : Rel S (m.set H.next ⟨w.heap.size, 0, c.size⟩) (H.alloc (.cells vs e)) (w.alloc (.cells c e)) := by
  refine hr.alloc hfree _ _ _ rfl ?_
  refine ⟨c, (0, 0), e, by show (w.heap.push _)[w.heap.size]? = _; simp, rfl, .inl rfl, by have := hv.length; simp; omega, ?_⟩
  intro i v hi
  obtain ⟨v', h1, h2⟩ := hv.get hi
  exact ⟨v', by simpa using hc i v' h1, h2.mono (Mu.le_set hfree _)⟩

theorem alloc_rel' {S : Base} {m : Mu} {H : Heap} {w : World} (hr : Rel S m H w) (hfree : m H.next = none) {vs : List Value} {c : Array Value} (hv : VRs m vs c.toList) (e : TypeId) :
    Rel S (m.set H.next ⟨w.heap.size, 0, c.size⟩) (H.alloc (.cells vs e)) (w.alloc (.cells c e)) :=
  alloc_rel hr hfree hv (by simp) (fun i v' h => by simpa using h)

theorem plain_zero {i : TI} (hp : i.zero.all plainV = true) (m : Mu) : VRs m i.zero i.zero := by
  have : ∀ l : List Value, l.all plainV = true → VRs m l l := by
    intro l
    induction l with
    | nil => intro _; exact .nil
    | cons v l ih =>
      intro h
      simp only [List.all_cons, Bool.and_eq_true] at h
      exact .cons (plainV_refl m v h.1) (ih h.2)
  exact this _ hp

section
variable {P : Program} {X : Ctx} {S : Base} {m : Mu} {H : Heap} {w : World}

theorem newVar_ok (hr : Rel S m H w) (hfree : m H.next = none) {t : TypeId} {cells : List Value} {v' : Value} (hv : VRs m cells (cellsOf v')) :
    Makes P S H m w (do pure (.pointer (some (← newVar t v')))) (newCells H t cells).1 (newCells H t cells).2 := by
  rw [cellsOf_eq] at hv
  refine ⟨_, .pointer (some ⟨w.heap.size, 0, none⟩), w.alloc (.cells v'.cells t), .alloc hfree ⟨w.heap.size, 0, v'.cells.size⟩ rfl, ?_, ?_, alloc_rel' hr hfree hv t⟩
  · simp [newVar, newRow]
  · exact .ptr (L := ⟨w.heap.size, 0, v'.cells.size⟩) 0 0 (by simp [Mu.set]) rfl

theorem foldl_fill {off : Nat} : ∀ (l : List Value) (k : Nat) (cs : Array Value), off + k + l.length ≤ cs.size →
    ((l.zipIdx k).foldl (fun cs x => cs.setIfInBounds (off + x.2) x.1) cs).size = cs.size ∧
    ∀ j, ((l.zipIdx k).foldl (fun cs x => cs.setIfInBounds (off + x.2) x.1) cs)[j]? = if off + k ≤ j ∧ j < off + k + l.length then l[j - (off + k)]? else cs[j]? := by
  intro l
  induction l with
  | nil => intro k cs _; exact ⟨rfl, fun j => by rw [if_neg (by simp)]; rfl⟩
  | cons x l ih =>
    intro k cs h
    simp only [List.length_cons] at h
    simp only [List.zipIdx_cons, List.foldl_cons]
    obtain ⟨h1, h2⟩ := ih (k + 1) (cs.setIfInBounds (off + k) x) (by simp; omega)
    refine ⟨by rw [h1]; simp, fun j => ?_⟩
    rw [h2 j]
    by_cases hj : off + (k + 1) ≤ j ∧ j < off + (k + 1) + l.length
    · rw [if_pos hj, if_pos (by simp; omega)]
      have : j - (off + k) = (j - (off + (k + 1))) + 1 := by omega
      rw [this, List.getElem?_cons_succ]
    · rw [if_neg hj, Array.getElem?_setIfInBounds]
      by_cases hj2 : off + k = j
      · rw [if_pos hj2, if_pos (by omega), if_pos (by simp; omega)]
        subst hj2; simp
      · rw [if_neg hj2, if_neg (by simp; omega)]

/-- Pairs of a place and a value. -/
inductive PR (m : Mu) : List (Nat × Value) → List (Nat × Value) → Prop
  | nil : PR m [] []
  | cons (i : Nat) {v v' : Value} {l l' : List (Nat × Value)} (h : VR m v v') (h' : PR m l l') : PR m ((i, v) :: l) ((i, v') :: l')

theorem fill_ok {place place' : Nat → Option (Nat × Nat)} (hp : ∀ j x, place j = some x → place' j = some x) : ∀ {parts parts' : List (Nat × Value)} {cells c : List Value} {cells' : Array Value},
    PR m parts parts' → VRs m cells cells'.toList → fillL place cells parts = some c → ∃ c', Instr.fill place' cells' parts' = some c' ∧ VRs m c c'.toList := by
  intro parts
  induction parts with
  | nil =>
    intro parts' cells c cells' hpr hv h
    cases hpr
    simp [fillL] at h; subst h
    exact ⟨cells', rfl, hv⟩
  | cons p parts ih =>
    intro parts' cells c cells' hpr hv h
    cases hpr with
    | @cons i v v' l l' hvv hrest =>
      simp only [fillL] at h
      split at h
      · cases h
      · rename_i off size hpl
        cases hs : Nat.beq (cellsOf v).length size with
        | false => simp [hs] at h
        | true =>
          simp only [hs, cond_true] at h
          have hs := Nat.eq_of_beq_eq_true hs
          split at h
          · rename_i d hd
            obtain ⟨e1, e2⟩ := splice_eq _ _ _ _ hd
            have hcl := hvv.cells.length
            have hlen := hv.length
            have hsz : v'.cells.size = (cellsOf v).length := by rw [hcl, cellsOf_eq]; simp
            simp only [Array.length_toList] at hlen
            simp only [Instr.fill, hp _ _ hpl]
            rw [if_neg (by simp; omega)]
            have hfold : (v'.cells.zipIdx.foldl (fun cs (x : Value × Nat) => cs.setIfInBounds (off + x.2) x.1) cells') =
                ((cellsOf v').zipIdx 0).foldl (fun cs x => cs.setIfInBounds (off + x.2) x.1) cells' := by
              rw [← Array.foldl_toList, Array.toList_zipIdx, cellsOf_eq]
            obtain ⟨g1, g2⟩ := foldl_fill (off := off) (cellsOf v') 0 cells' (by rw [← hcl]; omega)
            refine ih hrest ?_ h
            rw [hfold]
            refine VRs.of_get ?_ ?_
            · rw [splice_len hd]; simp only [Array.length_toList]; rw [g1]; exact hlen
            · intro j u u' hu hu'
              rw [splice_get hd] at hu
              rw [Array.getElem?_toList, g2] at hu'
              by_cases hin : off ≤ j ∧ j < off + (cellsOf v).length
              · rw [if_pos hin] at hu
                rw [if_pos (by rw [← hcl]; omega)] at hu'
                obtain ⟨q, hq, hqr⟩ := hvv.cells.get hu
                rw [Nat.add_zero] at hu'
                rw [hq] at hu'; cases hu'; exact hqr
              · rw [if_neg hin] at hu
                rw [if_neg (by rw [← hcl]; omega)] at hu'
                obtain ⟨q, hq, hqr⟩ := hv.get hu
                rw [Array.getElem?_toList] at hq
                rw [hq] at hu'; cases hu'; exact hqr
          · cases h

theorem mapM_places {fs : Array Field} : (fs.toList.all fun f => (P.info? f.type).isSome) = true →
    (fs.mapM fun f => (do pure (f.offset, ← sizeOf f.type) : Sem (Nat × Nat))).run P w = .ok (fs.map fun f => (f.offset, P.cellsOf f.type)) w := by
  intro hin
  obtain ⟨l⟩ := fs
  have key : ∀ l : List Field, (l.all fun f => (P.info? f.type).isSome) = true →
      (l.mapM fun f => (do pure (f.offset, ← sizeOf f.type) : Sem (Nat × Nat))).run P w = .ok (l.map fun f => (f.offset, P.cellsOf f.type)) w := by
    intro l
    induction l with
    | nil => intro _; simp
    | cons f l ih =>
      intro h
      simp only [List.all_cons, Bool.and_eq_true] at h
      obtain ⟨fi, hfi⟩ := Option.isSome_iff_exists.1 h.1
      have hsz : (sizeOf f.type).run P w = .ok (P.cellsOf f.type) w := by simp [sizeOf, typeInfo, hfi, Program.cellsOf]
      have ih := ih h.2
      simp only [List.mapM_cons, Sem.run_bind, hsz, Result.andThen_ok, Sem.run_pure] at ih ⊢
      rw [ih]; simp
  have := key l (by simpa using hin)
  rw [show (Array.mk l).mapM (fun f => (do pure (f.offset, ← sizeOf f.type) : Sem (Nat × Nat))) = List.toArray <$> l.mapM (fun f => (do pure (f.offset, ← sizeOf f.type) : Sem (Nat × Nat))) from List.mapM_toArray]
  rw [Sem.run_map, this]
  simp

theorem build_ok (htie : Tied P X) {t : TypeId} {parts : List (Nat × Value)} {parts' : Array (Nat × Value)} {v : Value} (h : build X t parts = some v) (hp : PR m parts parts'.toList)
    (hz : ∀ i, X.tt.get t = some i → VRs m i.zero i.zero) : Gives P m w (Instr.build t parts') v := by
  unfold build at h
  split at h
  · rename_i i hi
    have ht := htie.tt _ _ hi
    obtain ⟨dd, h1, h2, h3, h4⟩ := run_underlying ht w
    obtain ⟨z, k1, k2, k3⟩ := run_zeroValue ht w
    have hz := hz i hi
    have hzc : VRs m i.zero z.cells.toList := by rw [← cellsOf_eq, ← k2]; exact hz
    obtain ⟨info, d0, z0, g1, g2, g3, g4, g5, g6, g7, g8, g9, g10, g11⟩ := tinfo_spec ht
    rw [h4] at g2; cases g2
    split at h
    · rename_i fs hk
      rw [hk] at h2
      obtain ⟨gs, e, e'⟩ := tkOf_struct h2
      rw [e] at g11 h1
      split at h
      · rename_i c hc
        cases h
        have hpl : ∀ (j : Nat) (x : Nat × Nat), (match getN fs j with | some (o, _, s) => some (o, s) | none => none) = some x → (gs.map fun f => (f.offset, P.cellsOf f.type))[j]? = some x := by
          intro j x hx
          subst e'
          rw [getN_eq, List.getElem?_map] at hx
          cases hg : gs.toList[j]? with
          | none => rw [hg] at hx; simp at hx
          | some f =>
            rw [hg] at hx; simp at hx
            rw [← hx]
            rw [Array.getElem?_toList] at hg
            simp [hg]
        obtain ⟨c', q1, q2⟩ := fill_ok (place' := fun x => (gs.map fun f => (f.offset, P.cellsOf f.type))[x]?) hpl hp hzc hc
        refine ⟨.agg c', ?_, .agg (by simpa using q2)⟩
        simp only [Instr.build, Sem.run_bind, k1, Result.andThen_ok, h1]
        rw [mapM_places g11]
        simp only [Result.andThen_ok, q1, Sem.run_pure]
      · cases h
    · rename_i n e hk
      rw [hk] at h2
      have e' := tkOf_arr h2
      subst e'
      split at h
      · rename_i ie hie
        split at h
        · rename_i c hc
          cases h
          obtain ⟨c', q1, q2⟩ := fill_ok (place' := fun j => some (j * ie.size, ie.size)) (fun j x h => h) hp hzc hc
          refine ⟨.agg c', ?_, .agg (by simpa using q2)⟩
          simp [Instr.build, k1, h1, run_sizeOf (htie.tt _ _ hie), q1]
        · cases h
      · cases h
    · cases h
  · cases h

theorem repl_length {α : Type} (l : List α) (n : Nat) : (repl l n).length = n * l.length := by
  induction n with
  | zero => simp [repl]
  | succ n ih => simp [repl, ih, Nat.succ_mul]; omega

theorem repl_get {α : Type} (l : List α) : ∀ (n i : Nat), i < n * l.length → (repl l n)[i]? = l[i % l.length]? := by
  intro n
  induction n with
  | zero => intro i h; simp at h
  | succ n ih =>
    intro i h
    simp only [repl]
    by_cases hi : i < l.length
    · rw [List.getElem?_append_left hi, Nat.mod_eq_of_lt hi]
    · rw [Nat.succ_mul] at h
      rw [List.getElem?_append_right (by omega), ih _ (by omega), Nat.mod_eq_sub_mod (show i ≥ l.length by omega)]

theorem repl_vrs {l l' : List Value} (h : VRs m l l') : ∀ n, VRs m (repl l n) (repl l' n)
  | 0 => .nil
  | n + 1 => h.append (repl_vrs h n)

theorem range0 {α : Type} (f : Nat → α) : (Array.range 0).map f = #[] := by
  apply Array.eq_empty_of_size_eq_zero; simp

theorem range_map_repl {z : Array Value} {n s : Nat} (hz : z.size = s) (hs : 0 < s) : ((Array.range (n * s)).map fun i => z[i % z.size]!).toList = repl z.toList n := by
  apply List.ext_getElem?
  intro i
  have hl : (repl z.toList n).length = n * s := by rw [repl_length]; simp [hz]
  by_cases hi : i < n * s
  · rw [repl_get _ _ _ (by simpa [hz] using hi)]
    have hlt : i % z.size < z.size := Nat.mod_lt _ (by omega)
    simp only [Array.toList_map, List.getElem?_map, Array.getElem?_toList]
    rw [show (Array.range (n * s))[i]? = some i by simp [hi]]
    simp [hlt]
  · rw [List.getElem?_eq_none (by simp; omega), List.getElem?_eq_none (by omega)]

theorem buildSlice_ok (htie : Tied P X) (hr : Rel S m H w) {H' : Heap} (hfree : Free H H' m) {t : TypeId} {n : Nat} {parts : List (Nat × Value)} {parts' : Array (Nat × Value)} {v : Value}
    (h : buildSlice X H t n parts = some (v, H')) (hp : PR m parts parts'.toList)
    (hz : ∀ t i, X.tt.get t = some i → VRs m i.zero i.zero) : Makes P S H m w (Instr.buildSlice t n parts') v H' := by
  unfold buildSlice at h
  split at h
  · rename_i i hi
    have ht := htie.tt _ _ hi
    obtain ⟨dd, h1, h2, h3, h4⟩ := run_underlying ht w
    split at h
    · rename_i e hk
      rw [hk] at h2
      have e' := tkOf_slice h2
      subst e'
      split at h
      · rename_i ie hie
        have hte := htie.tt _ _ hie
        cases hb : (Nat.ble (n * ie.size) 16777216 && Nat.beq ie.zero.length ie.size && Nat.blt 0 ie.size) with
        | false => simp [hb] at h
        | true =>
          simp only [hb, cond_true] at h
          simp only [Bool.and_eq_true] at hb
          have hb1 := Nat.le_of_ble_eq_true hb.1.1
          have hb2 := Nat.eq_of_beq_eq_true hb.1.2
          have hb3 : 0 < ie.size := Nat.le_of_ble_eq_true hb.2
          split at h
          · rename_i c hc
            cases h
            obtain ⟨z, k1, k2, k3⟩ := run_zeroValue hte w
            rw [cellsOf_eq] at k2
            have hzs : z.cells.size = ie.size := by rw [← hb2, k2]; simp
            have hrow : VRs m (repl ie.zero n) ((Array.range (n * ie.size)).map fun i => z.cells[i % z.cells.size]!).toList := by
              rw [range_map_repl hzs hb3, ← k2]
              exact repl_vrs (hz e ie hie) n
            have hfree' : m H.next = none := hfree _ (Nat.le_refl _) (by simp)
            obtain ⟨c', q1, q2⟩ := fill_ok (place' := fun j => some (j * ie.size, ie.size)) (fun j x h => h) hp hrow hc
            refine ⟨_, .slice (some ⟨w.heap.size, 0, none⟩) n n, w.alloc (.cells c' e), .alloc hfree' ⟨w.heap.size, 0, c'.size⟩ rfl, ?_, ?_, alloc_rel' hr hfree' q2 e⟩
            · have hle : ¬ (n * ie.size > 2 ^ 24) := by have : (2 : Nat) ^ 24 = 16777216 := by decide
                                                        omega
              simp only [Instr.buildSlice, Sem.run_bind, h1, Result.andThen_ok, run_sizeOf hte, Sem.run_ite, if_neg hle, Sem.run_pure]
              by_cases h0 : n * ie.size = 0
              · rw [h0, range0] at q1
                simp [h0, range0, q1, newRow]
              · simp only [h0, if_false, Sem.run_bind, k1, Result.andThen_ok, Sem.run_pure, q1]
                simp [newRow]
            · refine .sl (L := ⟨w.heap.size, 0, c'.size⟩) 0 0 _ _ (by simp [Mu.set]) (.inr rfl) ?_
              have : n ≤ n * ie.size := Nat.le_mul_of_pos_right n hb3
              unfold unk; omega
          · cases h
      · cases h
    · cases h
  · cases h

theorem makeSlice_ok (htie : Tied P X) (hr : Rel S m H w) {H' : Heap} (hfree : Free H H' m) {t : TypeId} {l l' c c' v : Value}
    (h : makeSlice X H t l c = some (v, H')) (hl : VR m l l') (hc : VR m c c')
    (hz : ∀ t i, X.tt.get t = some i → VRs m i.zero i.zero) : Makes P S H m w (Instr.makeSlice t l' c') v H' := by
  unfold makeSlice at h
  split at h
  · rename_i i lk l0 ck c0 hi
    have ht := htie.tt _ _ hi
    obtain ⟨dd, h1, h2, h3, h4⟩ := run_underlying ht w
    cases hl; cases hc
    split at h
    · rename_i e hk
      rw [hk] at h2
      have e' := tkOf_slice h2
      subst e'
      split at h
      · rename_i ie hie
        have hte := htie.tt _ _ hie
        split at h
        · rename_i hb
          obtain ⟨b1, b2, b3, b4, b5, b6⟩ := hb
          cases h
          obtain ⟨z, k1, k2, k3⟩ := run_zeroValue hte w
          rw [cellsOf_eq] at k2
          have hzs : z.cells.size = ie.size := by rw [← b6, k2]; simp
          obtain ⟨info, hinfo, -, hbytes⟩ := run_typeInfo hte w
          have wl : IntKind.i64.wrap l0 = l0 := by rw [← wrapF_eq]; simp only [wrapF]; rw [Int.emod_eq_of_lt (by omega) (by omega)]; split <;> omega
          have wc : IntKind.i64.wrap c0 = c0 := by rw [← wrapF_eq]; simp only [wrapF]; rw [Int.emod_eq_of_lt (by omega) (by omega)]; split <;> omega
          have hrow : VRs m (repl ie.zero c0.toNat) ((Array.range (c0.toNat * ie.size)).map fun i => z.cells[i % z.cells.size]!).toList := by
            rw [range_map_repl hzs b5, ← k2]
            exact repl_vrs (hz e ie hie) _
          have hfree' : m H.next = none := hfree _ (Nat.le_refl _) (by simp)
          refine ⟨_, .slice (some ⟨w.heap.size, 0, none⟩) l0.toNat c0.toNat, _, .alloc hfree' ⟨w.heap.size, 0, _⟩ rfl, ?_, ?_, alloc_rel' hr hfree' hrow e⟩
          · have hno : ¬ ((decide (c0 < 0) || decide ((info.bytes : Int) * c0 > 2 ^ 48) || decide (l0 < 0) || decide (l0 > c0)) = true) := by
              simp only [Bool.or_eq_true, decide_eq_true_eq, not_or]
              have : (2 : Int) ^ 48 = 281474976710656 := by decide
              rw [hbytes, this]
              omega
            simp only [Instr.makeSlice, Sem.run_bind, h1, Result.andThen_ok, asInt, asIntOf, Sem.run_pure, hinfo, wl, wc]
            rw [Sem.run_ite, if_neg hno]
            simp only [Sem.run_bind, run_askRoom, Result.andThen_ok, run_sizeOf hte]
            by_cases h0 : c0.toNat * ie.size = 0
            · simp [h0, range0, newRow]
            · simp only [h0, if_false, Sem.run_bind, k1, Result.andThen_ok, Sem.run_pure]
              simp [newRow]
          · refine .sl (L := ⟨w.heap.size, 0, ((Array.range (c0.toNat * ie.size)).map fun i => z.cells[i % z.cells.size]!).size⟩) 0 0 _ _ (by simp [Mu.set]) (.inr rfl) ?_
            unfold unk; omega
        · cases h
      · cases h
    · cases h
  · cases h

end
end Ev
end Go.Proofs.Ytglkgmomnbdkoaa
