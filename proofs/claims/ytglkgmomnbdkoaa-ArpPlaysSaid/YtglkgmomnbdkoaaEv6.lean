/- Addresses, loads, stores, fields, indexes, slices: the evaluator's and the model's. -/
import Derived.Test.YtglkgmomnbdkoaaEv5
namespace Go.Proofs.Ytglkgmomnbdkoaa
namespace Ev

theorem bytes_get (s : ByteArray) (n : Nat) : s[n]? = s.data.toList[n]? := by
  by_cases h : n < s.size
  · rw [getElem?_pos s n h, List.getElem?_eq_getElem (by simpa using h)]; rfl
  · rw [getElem?_neg s n h, List.getElem?_eq_none (by simpa using h)]

section
variable {P : Program} {X : Ctx} {S : Base} {m : Mu} {H : Heap} {w : World} (htie : Tied P X) (hext : ExtOk X S) (hr : Rel S m H w)
include htie hext hr

theorem load_ok {t : TypeId} {a a' v : Value} (h : load X H t a = some v) (ha : VR m a a') : Gives P m w (Instr.loadAt t a') v := by
  unfold load at h
  split at h
  · rename_i ad
    split at h
    · rename_i i hi
      have ht := htie.tt _ _ hi
      by_cases hs : ad.spot = some 1
      · have h1 : ∀ n, rdN X H ad n = none := by intro n; simp [rdN, hs]
        have h2 : rd1 X H ad = none := by simp [rd1, hs]
        cases hg : i.agg <;> simp [hg, h1, h2] at h
      · obtain ⟨ad', rfl, har⟩ := ha.ptr_inv hs
        unfold Gives Instr.loadAt Instr.sureAddr loadVar
        simp only [Sem.run_bind, Sem.run_pure, Result.andThen_ok, run_isAgg ht]
        cases hg : i.agg with
        | true =>
          simp only [hg, cond_true] at h
          split at h
          · rename_i l hl
            cases h
            obtain ⟨l', h1, h2, h3⟩ := rdN_ok hext hr hl har
            refine ⟨.agg l'.toArray, ?_, .agg (by simpa using h1)⟩
            have hsp := har.spot
            obtain ⟨b, o, s⟩ := ad'
            simp only at hsp
            subst hsp
            simp only [if_true, Sem.run_bind, run_sizeOf ht, Result.andThen_ok]
            rw [run_loadCells (l := l') (by rw [← h1.length, h2]) (by simpa using h3)]
            simp
          · cases h
        | false =>
          simp only [hg, cond_false] at h
          obtain ⟨v', h1, h2⟩ := rd1_ok hext hr h har
          exact ⟨v', by simp only [Bool.false_eq_true, if_false]; rw [run_load_cell h1], h2⟩
    · cases h
  · cases h

omit hext in
theorem store_ok {H' : Heap} {t : TypeId} {a a' v v' : Value} (h : store X H t a v = some H') (ha : VR m a a') (hv : VR m v v') :
    ∃ w', (Instr.storeAt t a' v').run P w = .ok () w' ∧ Rel S m H' w' := by
  unfold store at h
  split at h
  · rename_i ad
    split at h
    · rename_i i hi
      have ht := htie.tt _ _ hi
      cases hs : Nat.beq (cellsOf v).length i.size with
      | false => simp [hs] at h
      | true =>
        simp only [hs, cond_true] at h
        have hs := Nat.eq_of_beq_eq_true hs
        by_cases hsp : ad.spot = some 1
        · simp [wrN, hsp] at h
        · obtain ⟨ad', rfl, har⟩ := ha.ptr_inv hsp
          obtain ⟨w', h1, h2, -⟩ := wrN_ok hr (P := P) h har hv.cells
          refine ⟨w', ?_, h2⟩
          unfold Instr.storeAt Instr.sureAddr storeVar
          simp only [Sem.run_bind, Sem.run_pure, Result.andThen_ok, run_sizeOf ht]
          have hl := hv.cells.length
          rw [cellsOf_eq v'] at hl h1
          have : ¬ (v'.cells.size ≠ i.size) := by simp at hl; omega
          rw [if_neg this]
          exact h1
    · cases h
  · cases h

omit hext hr in
theorem fieldAddr_ok {t : TypeId} {x x' v : Value} {f : Nat} (h : fieldAddr X t x f = some v) (hx : VR m x x') : Gives P m w (Instr.fieldAt t x' f) v := by
  unfold fieldAddr at h
  split at h
  · rename_i a i hi
    have ht := htie.tt _ _ hi
    split at h
    · rename_i fs hk
      split at h
      · rename_i o ft s hf
        cases hs : Nat.beq s 0 with
        | true => simp [hs] at h
        | false =>
          simp [hs] at h
          subst h
          obtain ⟨dd, h1, h2, h3, h4⟩ := run_underlying ht w
          obtain ⟨info, d0, z, g1, g2, g3, g4, g5, g6, g7, g8, g9, g10, g11⟩ := tinfo_spec ht
          rw [h4] at g2; cases g2
          rw [hk] at h2
          obtain ⟨gs, e, e'⟩ := tkOf_struct h2
          rw [getN_eq, e', List.getElem?_map] at hf
          cases hgf : gs.toList[f]? with
          | none => rw [hgf] at hf; simp at hf
          | some fld =>
            rw [hgf] at hf; simp at hf
            obtain ⟨rfl, rfl, rfl⟩ := hf
            have hin : (P.info? fld.type).isSome = true := by
              rw [e] at g11
              exact List.all_eq_true.1 g11 fld (List.mem_of_getElem? hgf)
            obtain ⟨fi, hfi⟩ := Option.isSome_iff_exists.1 hin
            have hsz : (sizeOf fld.type).run P w = .ok (P.cellsOf fld.type) w := by simp [sizeOf, typeInfo, hfi, Program.cellsOf]
            have hne : P.cellsOf fld.type ≠ 0 := by intro h0; rw [h0] at hs; cases hs
            have hgf' : gs[f]? = some fld := by simpa using hgf
            subst e
            cases hx with
            | ptr o o' hb ho =>
              refine ⟨_, ?_, (AR.here _ _ hb ho).add' fld.offset |>.ptr⟩
              simp [Instr.fieldAt, h1, hgf', Instr.sureAddr, fieldPlace, hsz, hne]
            | ptrX b o =>
              refine ⟨_, ?_, (AR.outside b o).add' fld.offset |>.ptr⟩
              simp [Instr.fieldAt, h1, hgf', Instr.sureAddr, fieldPlace, hsz, hne]
            | ptrG b o =>
              refine ⟨.pointer (some ⟨b, o + fld.offset, none⟩), ?_, .ptrG _ _⟩
              simp [Instr.fieldAt, h1, hgf', Instr.sureAddr, fieldPlace, hsz, hne, Addr.add_none]
      · cases h
    · cases h
  · cases h

omit hext hr in
theorem field_ok {t : TypeId} {x x' v : Value} {f : Nat} (h : field X t x f = some v) (hx : VR m x x') : Gives P m w (Instr.field t x' f) v := by
  unfold field at h
  split at h
  · rename_i cs i hi
    have ht := htie.tt _ _ hi
    split at h
    · rename_i fs hk
      split at h
      · rename_i o ft s hf
        split at h
        · rename_i it hit
          have hti := htie.tt _ _ hit
          obtain ⟨dd, h1, h2, h3, h4⟩ := run_underlying ht w
          rw [hk] at h2
          obtain ⟨gs, e, e'⟩ := tkOf_struct h2
          rw [getN_eq, e', List.getElem?_map] at hf
          cases hgf : gs.toList[f]? with
          | none => rw [hgf] at hf; simp at hf
          | some fld =>
            rw [hgf] at hf; simp at hf
            obtain ⟨rfl, rfl, rfl⟩ := hf
            have hgf' : gs[f]? = some fld := by simpa using hgf
            rw [cellsOf_tinfo hti] at h
            subst e
            cases hx with
            | agg hcs =>
              obtain ⟨v', k1, k2⟩ := part_ok (w := w) hti hcs h
              exact ⟨v', by simp [Instr.field, h1, hgf', asAgg, k1], k2⟩
        · cases h
      · cases h
    · cases h
  · cases h

omit hext hr in
theorem indexAddr_ok {t : TypeId} {x x' i i' v : Value} (h : indexAddr X t x i = some v) (hx : VR m x x') (hi : VR m i i') : Gives P m w (Instr.indexAt t x' i') v := by
  unfold indexAddr at h
  split at h
  · rename_i k n it hit
    have ht := htie.tt _ _ hit
    obtain ⟨dd, h1, h2, h3, h4⟩ := run_underlying ht w
    cases hi
    split at h
    · rename_i len e a hk
      rw [hk] at h2
      have e' := tkOf_arr h2
      subst e'
      split at h
      · rename_i ie hie
        have hte := htie.tt _ _ hie
        split at h
        · rename_i hn
          cases h
          cases hx with
          | ptr o o' hb ho =>
            refine ⟨_, ?_, (AR.here _ _ hb ho).add' _ |>.ptr⟩
            simp [Instr.indexAt, asIntOf, h1, Instr.sureAddr, hn, run_sizeOf hte]
          | ptrX b o =>
            refine ⟨_, ?_, (AR.outside b o).add' _ |>.ptr⟩
            simp [Instr.indexAt, asIntOf, h1, Instr.sureAddr, hn, run_sizeOf hte]
          | ptrG b o =>
            refine ⟨.pointer (some ⟨b, o + n.toNat * ie.size, none⟩), ?_, .ptrG _ _⟩
            simp [Instr.indexAt, asIntOf, h1, Instr.sureAddr, hn, run_sizeOf hte, Addr.add_none]
        · cases h
      · cases h
    · rename_i e a len c hk
      rw [hk] at h2
      have e' := tkOf_slice h2
      subst e'
      split at h
      · rename_i ie hie
        have hte := htie.tt _ _ hie
        split at h
        · rename_i hn
          cases h
          cases hx with
          | sl o o' l c hb ho hc =>
            have ho : o' = _ := ho.resolve_left (by omega)
            refine ⟨_, ?_, (AR.here _ _ hb ho).add' _ |>.ptr⟩
            simp [Instr.indexAt, asIntOf, h1, hn, run_sizeOf hte]
          | slU o o' l c c' z hb hc ho hl hf =>
            have ho : o' = _ := ho.resolve_left (by omega)
            refine ⟨_, ?_, (AR.here _ _ hb ho).add' _ |>.ptr⟩
            simp [Instr.indexAt, asIntOf, h1, hn, run_sizeOf hte]
          | slX b o l c hc =>
            refine ⟨_, ?_, (AR.outside b o).add' _ |>.ptr⟩
            simp [Instr.indexAt, asIntOf, h1, hn, run_sizeOf hte]
          | slZ b o a => omega
        · cases h
      · cases h
    · cases h
  · cases h

omit hext hr in
theorem index_ok {t : TypeId} {x x' i i' v : Value} (h : index X t x i = some v) (hx : VR m x x') (hi : VR m i i') : Gives P m w (Instr.index t x' i') v := by
  unfold index at h
  split at h
  · rename_i k n it hit
    have ht := htie.tt _ _ hit
    obtain ⟨dd, h1, h2, h3, h4⟩ := run_underlying ht w
    cases hi
    split at h
    · rename_i len e cs hk
      rw [hk] at h2
      have e' := tkOf_arr h2
      subst e'
      split at h
      · rename_i ie hie
        have hte := htie.tt _ _ hie
        split at h
        · rename_i hn
          cases hx with
          | agg hcs =>
            obtain ⟨v', k1, k2⟩ := part_ok (w := w) hte hcs h
            exact ⟨v', by simp [Instr.index, asIntOf, h1, hn, run_sizeOf hte, k1], k2⟩
        · cases h
      · cases h
    · rename_i s hk
      rw [hk] at h2
      have e' := tkOf_str h2
      subst e'
      split at h
      · rename_i hn
        split at h
        · rename_i b hb
          cases h
          cases hx
          rw [getN_eq] at hb
          refine ⟨_, ?_, .int _ _⟩
          have : s[n.toNat]? = some b := by rw [bytes_get]; exact hb
          simp [Instr.index, asIntOf, h1, hn, this]
        · cases h
      · cases h
    · cases h
  · cases h
end

section
variable {P : Program} {m : Mu} {w : World}

theorem bound_ok {y d : Nat} {x x' : Option Value} {n : Nat} (h : bound y x d = some n) (hx : x' = x.map fun v => v) (c : BoundsCode) :
    (match x' with | some v => Instr.sliceBound v y c | none => (pure d : Sem Nat)).run P w = .ok n w ∧ (x.isSome = true → n ≤ y) ∧ (x.isSome = false → n = d) := by
  subst hx
  cases x with
  | none => simp [bound] at h; subst h; simp
  | some v =>
    cases v <;> simp only [bound, reduceCtorEq] at h
    rename_i k i
    split at h
    · rename_i hi
      cases h
      refine ⟨?_, fun _ => ?_, fun h => by cases h⟩
      · simp [Instr.sliceBound, asIntOf, hi]
      · obtain ⟨h0, h1⟩ := hi
        omega
    · cases h

/-- A bound's value is a plain number. -/
theorem bound_val {y d n : Nat} {x : Option Value} {x' : Option Value} (h : bound y x d = some n) (hx : ∀ v, x = some v → ∃ v', x' = some v' ∧ VR m v v') (hn : x = none → x' = none) : x' = x := by
  cases x with
  | none => exact hn rfl
  | some v =>
    obtain ⟨v', h1, h2⟩ := hx v rfl
    cases v <;> simp only [bound, reduceCtorEq] at h
    cases h2
    exact h1

inductive OR (m : Mu) : Option Value → Option Value → Prop
  | none : OR m none none
  | some {v v' : Value} (h : VR m v v') : OR m (some v) (some v')

theorem bound_same {y d n : Nat} {x x' : Option Value} (h : bound y x d = some n) (hx : OR m x x') : x' = x := by
  cases hx with
  | none => rfl
  | @some v v' hv =>
    cases v <;> simp only [bound, reduceCtorEq] at h
    cases hv; rfl

/-- The three bounds of a slice expression. -/
theorem bounds_ok (isSlice : Bool) (len cap : Nat) (lo hi mx lo' hi' mx' : Option Value) (l hh mm : Nat) (hlo : OR m lo lo') (hhi : OR m hi hi') (hmx : OR m mx mx')
    (h1 : bound cap mx cap = some mm) (h0 : mx.isSome = true → hi.isSome = true) (h2 : bound mm hi len = some hh) (h3 : bound hh lo 0 = some l) :
    (Instr.sliceBounds isSlice len cap lo' hi' mx').run P w = .ok (l, hh, mm) w := by
  have e1 := bound_same h1 hmx
  have e2 := bound_same h2 hhi
  have e3 := bound_same h3 hlo
  subst e1 e2 e3
  have key : ∀ (y d n : Nat) (v : Value) (c : BoundsCode), bound y (some v) d = some n → (Instr.sliceBound v y c).run P w = .ok n w := by
    intro y d n v c h
    exact (bound_ok (P := P) (w := w) h rfl c).1
  unfold Instr.sliceBounds
  cases mx' with
  | none =>
    simp [bound] at h1; subst h1
    cases hi' with
    | none =>
      simp [bound] at h2; subst h2
      cases lo' with
      | none => simp [bound] at h3; subst h3; simp
      | some lv => simp [key _ _ _ _ _ h3]
    | some hv =>
      cases lo' with
      | none => simp [bound] at h3; subst h3; simp [key _ _ _ _ _ h2]
      | some lv => simp [key _ _ _ _ _ h2, key _ _ _ _ _ h3]
  | some mv =>
    cases hi' with
    | none => simp at h0
    | some hv =>
      cases lo' with
      | none => simp [bound] at h3; subst h3; simp [key _ _ _ _ _ h1, key _ _ _ _ _ h2]
      | some lv => simp [key _ _ _ _ _ h1, key _ _ _ _ _ h2, key _ _ _ _ _ h3]

theorem bound_d {y d d' : Nat} {v : Value} : bound y (some v) d = bound y (some v) d' := by cases v <;> rfl

theorem bound_or {y d n : Nat} {x : Option Value} (h : bound y x d = some n) : n ≤ y ∨ n = d := by
  cases x with
  | none => simp [bound] at h; omega
  | some v =>
    cases v <;> simp only [bound, reduceCtorEq] at h
    split at h
    · cases h; omega
    · cases h

theorem bound_le {y d n : Nat} {x : Option Value} (h : bound y x d = some n) (hd : d ≤ y) : n ≤ y := by
  cases x with
  | none => simp [bound] at h; omega
  | some v =>
    cases v <;> simp only [bound, reduceCtorEq] at h
    split at h
    · cases h; omega
    · cases h

theorem bound_mono {y y' d n : Nat} {x : Option Value} (h : bound y x d = some n) (hy : y ≤ y') : bound y' x d = some n := by
  cases x with
  | none => exact h
  | some v =>
    cases v <;> simp only [bound, reduceCtorEq] at h ⊢
    split at h
    · rename_i hi; cases h
      rw [if_pos ⟨hi.1, by omega⟩]
    · cases h

theorem moved_ar {a a' : Addr} (h : AR m a a') (mm l s : Nat) : AR m (moved a mm l s) (if mm = l then a' else a'.add (l * s)) := by
  unfold moved
  by_cases e : mm = l
  · subst e; simp [h]
  · have : Nat.beq mm l = false := by
      cases hb : Nat.beq mm l with
      | false => rfl
      | true => exact absurd (Nat.eq_of_beq_eq_true hb) e
    rw [this, if_neg e]
    exact h.add' _

theorem slice_ar {a a' : Addr} (h : AR m a a') {l c : Nat} (hc : c < unk) : VR m (.slice (some a) l c) (.slice (some a') l c) := by
  cases h with
  | here o o' h ho => exact .sl _ _ _ _ h (.inr ho) hc
  | outside b o => exact .slX _ _ _ _ hc

theorem moved_eq (a : Addr) (mm l s : Nat) : moved a mm l s = if mm = l then a else addA a (l * s) := by
  unfold moved
  by_cases e : mm = l
  · subst e; simp
  · have : Nat.beq mm l = false := by
      cases hb : Nat.beq mm l with
      | false => rfl
      | true => exact absurd (Nat.eq_of_beq_eq_true hb) e
    rw [this, if_neg e]; rfl

theorem slice_ok {X : Ctx} (htie : Tied P X) {t : TypeId} {x x' v : Value} {lo hi mx lo' hi' mx' : Option Value} (h : slice X t x lo hi mx = some v) (hx : VR m x x')
    (hlo : OR m lo lo') (hhi : OR m hi hi') (hmx : OR m mx mx') : Gives P m w (Instr.sliceAt t x' lo' hi' mx') v := by
  unfold slice at h
  split at h
  · cases h
  · rename_i it hit
    have ht := htie.tt _ _ hit
    obtain ⟨dd, h1, h2, h3, h4⟩ := run_underlying ht w
    split at h
    · rename_i n e a hk
      rw [hk] at h2
      have e' := tkOf_arr h2
      subst e'
      split at h
      · rename_i ie hie
        have hte := htie.tt _ _ hie
        cases hmx
        cases hn : (Nat.blt n unk && spotOk a) with
        | false => simp [hn] at h
        | true =>
          simp only [hn, cond_true] at h
          rw [Bool.and_eq_true] at hn
          have hs : a.spot ≠ some 1 := by intro e; have := hn.2; simp [spotOk, e] at this
          have hn : n < unk := Nat.le_of_ble_eq_true hn.1
          split at h
          · cases h
          · rename_i hh hhh
            split at h
            · cases h
            · rename_i l hl
              cases h
              have hb := bounds_ok (P := P) (m := m) (w := w) false n n lo hi none lo' hi' none l hh n hlo hhi .none rfl (by simp) hhh hl
              obtain ⟨a', rfl, har⟩ := hx.ptr_inv hs
              refine ⟨.slice (some (if n = l then a' else a'.add (l * ie.size))) (hh - l) (n - l), ?_, ?_⟩
              · simp [Instr.sliceAt, h1, Instr.sureAddr, hb, run_sizeOf hte]
              · exact slice_ar (moved_ar har n l ie.size) (by omega)
      · cases h
    · rename_i s hk
      rw [hk] at h2
      have e' := tkOf_str h2
      subst e'
      split at h
      · cases h
      · cases hmx
        split at h
        · cases h
        · rename_i hh hhh
          split at h
          · cases h
          · rename_i l hl
            cases h
            cases hx
            have hb := bounds_ok (P := P) (m := m) (w := w) false s.size s.size lo hi none lo' hi' none l hh s.size hlo hhi .none rfl (by simp) hhh hl
            refine ⟨.string (s.extract l hh), by simp [Instr.sliceAt, Instr.slice, h1, hb], ?_⟩
            have : s.extract l hh = ⟨⟨(s.data.toList.drop l).take (hh - l)⟩⟩ := by
              apply ByteArray.ext
              rw [ByteArray.data_extract]
              apply Array.toList_inj.1
              simp [List.extract_eq_take_drop]
            rw [this]
            exact .string _
    · rename_i e base len cap hk
      rw [hk] at h2
      have e' := tkOf_slice h2
      subst e'
      split at h
      · cases h
      · rename_i ie hie
        have hte := htie.tt _ _ hie
        split at h
        · split at h
          · cases h
          · cases hmx
            split at h
            · cases h
            · rename_i hh hhh
              split at h
              · cases h
              · rename_i l hl
                cases h
                cases hx
                have hb := bounds_ok (P := P) (m := m) (w := w) true len cap lo hi none lo' hi' none l hh cap hlo hhi .none rfl (by simp) hhh hl
                exact ⟨.slice none (hh - l) (cap - l), by simp [Instr.sliceAt, Instr.slice, h1, hb, run_sizeOf hte], .slNil _ _⟩
        · rename_i a
          cases hu : Nat.ble unk cap with
          | false =>
            have hcap : cap < unk := by
              rcases Nat.lt_or_ge cap unk with h' | h'
              · exact h'
              · rw [Nat.ble_eq_true_of_le h'] at hu; cases hu
            simp only [hu, cond_false] at h
            split at h
            · cases h
            · rename_i hmh
              have h0 : mx.isSome = true → hi.isSome = true := by
                intro hm
                cases mx with
                | none => cases hm
                | some mv => cases hi with
                  | none => exact (hmh _ rfl rfl).elim
                  | some hv => rfl
              split at h
              · cases h
              · rename_i mm hmm
                split at h
                · cases h
                · rename_i hh hhh
                  split at h
                  · cases h
                  · rename_i l hl
                    cases h
                    have hb := bounds_ok (P := P) (m := m) (w := w) true len cap lo hi mx lo' hi' mx' l hh mm hlo hhi hmx hmm h0 hhh hl
                    have hm1 := bound_le hmm (Nat.le_refl _)
                    cases hx with
                    | @sl b L o o' l' c hb' ho hc =>
                      refine ⟨.slice (some (if mm = l then ⟨L.blk, o', none⟩ else Addr.add ⟨L.blk, o', none⟩ (l * ie.size))) (hh - l) (mm - l), ?_, ?_⟩
                      · simp only [Instr.sliceAt, Sem.run_bind, h1, Result.andThen_ok, Instr.slice, hb, run_sizeOf hte, Sem.run_pure]
                        by_cases e : mm = l <;> simp [e]
                      · rw [moved_eq]
                        by_cases e : mm = l
                        · rw [if_pos e, if_pos e]
                          refine .sl _ _ _ _ hb' ?_ (by omega)
                          rcases ho with ho | ho
                          · left
                            have := bound_or hhh
                            omega
                          · exact .inr ho
                        · rw [if_neg e, if_neg e, Addr.add_none]
                          refine .sl _ _ _ _ hb' ?_ (by omega)
                          rcases ho with ho | ho
                          · have := bound_or hhh
                            have := bound_le hl (Nat.zero_le _)
                            omega
                          · right; show o' + l * ie.size = L.sh + (o + l * ie.size); omega
                    | slU o o' l' c c' z hb' hc ho hl' hf => omega
                    | slX b o l' c hc =>
                      refine ⟨.slice (some (if mm = l then ⟨b, o, none⟩ else Addr.add ⟨b, o, none⟩ (l * ie.size))) (hh - l) (mm - l), ?_, ?_⟩
                      · simp only [Instr.sliceAt, Sem.run_bind, h1, Result.andThen_ok, Instr.slice, hb, run_sizeOf hte, Sem.run_pure]
                        by_cases e : mm = l <;> simp [e]
                      · rw [moved_eq]
                        by_cases e : mm = l
                        · rw [if_pos e, if_pos e]; exact .slX _ _ _ _ (by omega)
                        · rw [if_neg e, if_neg e, Addr.add_none]; exact .slX _ _ _ _ (by omega)
                    | slZ b o a =>
                      have hh0 : hh = 0 := by
                        have := bound_or hhh
                        omega
                      have hl0 : l = 0 := by
                        have := bound_le hl (Nat.zero_le _)
                        omega
                      have hm0 : mm = 0 := by omega
                      subst hh0; subst hl0; subst hm0
                      refine ⟨.slice (some a) 0 0, ?_, ?_⟩
                      · simp [Instr.sliceAt, Sem.run_bind, h1, Result.andThen_ok, Instr.slice, hb, run_sizeOf hte]
                      · rw [moved_eq, if_pos rfl]; exact .slZ _ _ _
          | true =>
            have hcap : unk ≤ cap := Nat.le_of_ble_eq_true hu
            simp only [hu, cond_true] at h
            cases hz : Nat.beq cap (unk + ie.size) with
            | false => simp [hz] at h
            | true =>
              have hcz := Nat.eq_of_beq_eq_true hz
              simp only [hz, cond_true] at h
              cases hx with
              | sl o o' l' c hb' ho hc => omega
              | slX b o l' c hc => omega
              | slZ b o a => exact absurd hcap (by unfold unk; omega)
              | @slU b L o o' l' c c' z hb' hc ho hl' hf =>
                have hzz : z = ie.size := by omega
                subst hzz
                split at h
                · rename_i mv
                  split at h
                  · cases h
                  · rename_i hv
                    split at h
                    · cases h
                    · rename_i mm hmm
                      split at h
                      · cases h
                      · rename_i hh hhh
                        split at h
                        · cases h
                        · rename_i l hl
                          cases hmu : Nat.blt mm unk with
                          | false => simp [hmu] at h
                          | true =>
                          simp only [hmu, cond_true] at h
                          have hmu : mm < unk := Nat.le_of_ble_eq_true hmu
                          cases h
                          have hm1 := bound_le hmm (Nat.zero_le _)
                          have hm2 := bound_le hhh (Nat.zero_le _)
                          have hm3 := bound_le hl (Nat.zero_le _)
                          have hb := bounds_ok (P := P) (m := m) (w := w) true len c' lo (some hv) (some mv) lo' hi' mx' l hh mm hlo hhi hmx (bound_mono (by rw [bound_d]; exact hmm) hl') (by simp) (by rw [bound_d]; exact hhh) hl
                          refine ⟨.slice (some (if mm = l then ⟨L.blk, o', none⟩ else Addr.add ⟨L.blk, o', none⟩ (l * ie.size))) (hh - l) (mm - l), ?_, ?_⟩
                          · simp only [Instr.sliceAt, Sem.run_bind, h1, Result.andThen_ok, Instr.slice, hb, run_sizeOf hte, Sem.run_pure]
                            by_cases e : mm = l <;> simp [e]
                          · rw [moved_eq]
                            by_cases e : mm = l
                            · rw [if_pos e, if_pos e]
                              refine .sl _ _ _ _ hb' ?_ (by omega)
                              rcases ho with ho | ho
                              · left; omega
                              · exact .inr ho
                            · rw [if_neg e, if_neg e, Addr.add_none]
                              refine .sl _ _ _ _ hb' ?_ (by omega)
                              rcases ho with ho | ho
                              · omega
                              · right; show o' + l * ie.size = L.sh + (o + l * ie.size); omega
                · cases hmx
                  split at h
                  · cases h
                  · rename_i hh hhh
                    split at h
                    · cases h
                    · rename_i l hl
                      cases h
                      have hm2 := bound_le hhh (Nat.le_refl _)
                      have hm3 := bound_le hl (Nat.zero_le _)
                      have hb := bounds_ok (P := P) (m := m) (w := w) true len c' lo hi none lo' hi' none l hh c' hlo hhi .none rfl (by simp) (bound_mono hhh hl') hl
                      refine ⟨.slice (some (if c' = l then ⟨L.blk, o', none⟩ else Addr.add ⟨L.blk, o', none⟩ (l * ie.size))) (hh - l) (c' - l), ?_, ?_⟩
                      · simp only [Instr.sliceAt, Sem.run_bind, h1, Result.andThen_ok, Instr.slice, hb, run_sizeOf hte, Sem.run_pure]
                        by_cases e : c' = l <;> simp [e]
                      · by_cases e : c' = l
                        · rw [if_pos e]
                          refine .slU (o + l * ie.size) o' _ _ _ ie.size hb' hc (.inl (by omega)) (by omega) ?_
                          have : c' - l = 0 := by omega
                          rw [this]; omega
                        · rw [if_neg e, Addr.add_none]
                          refine .slU (o + l * ie.size) (o' + l * ie.size) _ _ _ ie.size hb' hc ?_ (by omega) ?_
                          · rcases ho with ho | ho
                            · left; omega
                            · right; omega
                          · have hmul : (c' - l) * ie.size + l * ie.size = c' * ie.size := by
                              rw [← Nat.add_mul]; congr 1; omega
                            omega
    · cases h
end
end Ev
end Go.Proofs.Ytglkgmomnbdkoaa
