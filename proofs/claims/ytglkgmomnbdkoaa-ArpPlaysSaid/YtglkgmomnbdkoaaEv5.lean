/- Operations without memory, and those that read it: the evaluator's and the model's. -/
import Derived.Test.YtglkgmomnbdkoaaEv4
import Derived.Laws.StructEq
namespace Go.Proofs.Ytglkgmomnbdkoaa
namespace Ev

theorem wrapF_eq (k : IntKind) (n : Int) : wrapF k n = k.wrap n := by
  cases k <;> simp [wrapF, IntKind.wrap, IntKind.bits, IntKind.signed]

theorem modF_eq (k : IntKind) : modF k = 2 ^ k.bits := by cases k <;> rfl
theorem bitsF_eq (k : IntKind) : bitsF k = k.bits := by cases k <;> rfl

theorem natF_eq (k : IntKind) (n : Int) : (BitVec.ofInt k.bits n).toNat = natF k n := by
  rw [BitVec.toNat_ofInt, natF, modF_eq]

/-- What a pure operation comes to. -/
def Gives (P : Program) (m : Mu) (w : World) (s : Sem Value) (v : Value) : Prop := ∃ v', s.run P w = .ok v' w ∧ VR m v v'

section
variable {P : Program} {m : Mu} {w : World}

theorem gives_int {k : IntKind} {a b : Int} {s : Sem Value} (h : s.run P w = .ok (.int k a) w) (e : a = b) : Gives P m w s (.int k b) := ⟨_, h, e ▸ .int k a⟩
theorem gives_bool {a b : Bool} {s : Sem Value} (h : s.run P w = .ok (.bool a) w) (e : a = b) : Gives P m w s (.bool b) := ⟨_, h, e ▸ .bool a⟩

theorem intOp_ok {op : BinOp} {k : IntKind} {x y : Int} {v : Value} (h : intOp op k x y = some v) (t : TypeId) :
    Gives P m w (binOp op t (.int k x) (.int k y)) v := by
  cases op with
  | add => cases h; exact gives_int (by simp [binOp, Op.intArith]) (wrapF_eq _ _).symm
  | sub => cases h; exact gives_int (by simp [binOp, Op.intArith]) (wrapF_eq _ _).symm
  | mul => cases h; exact gives_int (by simp [binOp, Op.intArith]) (wrapF_eq _ _).symm
  | quo =>
    simp only [intOp] at h
    split at h
    · cases h
    · rename_i hy; cases h; exact gives_int (by simp [binOp, Op.intDiv, hy]) (wrapF_eq _ _).symm
  | rem =>
    simp only [intOp] at h
    split at h
    · cases h
    · rename_i hy; cases h; exact gives_int (by simp [binOp, Op.intDiv, hy]) rfl
  | and =>
    cases h
    exact gives_int (a := k.wrap ((BitVec.ofInt k.bits x &&& BitVec.ofInt k.bits y).toNat : Int)) (by simp [binOp, Op.intBits]) (by rw [← wrapF_eq, BitVec.toNat_and, natF_eq, natF_eq]; rfl)
  | or =>
    cases h
    exact gives_int (a := k.wrap ((BitVec.ofInt k.bits x ||| BitVec.ofInt k.bits y).toNat : Int)) (by simp [binOp, Op.intBits]) (by rw [← wrapF_eq, BitVec.toNat_or, natF_eq, natF_eq]; rfl)
  | xor =>
    cases h
    exact gives_int (a := k.wrap ((BitVec.ofInt k.bits x ^^^ BitVec.ofInt k.bits y).toNat : Int)) (by simp [binOp, Op.intBits]) (by rw [← wrapF_eq, BitVec.toNat_xor, natF_eq, natF_eq]; rfl)
  | andNot =>
    cases h
    exact gives_int (a := k.wrap ((BitVec.ofInt k.bits x &&& ~~~ BitVec.ofInt k.bits y).toNat : Int)) (by simp [binOp, Op.intBits]) (by rw [← wrapF_eq, BitVec.toNat_and, BitVec.toNat_not, natF_eq, natF_eq, modF_eq]; rfl)
  | eql => cases h; exact gives_bool (by simp [binOp, Op.intCmp]) rfl
  | neq => cases h; exact gives_bool (by simp [binOp, Op.intCmp]) rfl
  | lss => cases h; exact gives_bool (by simp [binOp, Op.intCmp]) rfl
  | leq => cases h; exact gives_bool (by simp [binOp, Op.intCmp]) rfl
  | gtr => cases h; exact gives_bool (by simp [binOp, Op.intCmp]) rfl
  | geq => cases h; exact gives_bool (by simp [binOp, Op.intCmp]) rfl
  | shl => cases h
  | shr => cases h

theorem shiftOp_ok {op : BinOp} {k k' : IntKind} {x y : Int} {v : Value} (h : shiftOp op k x y = some v) (t : TypeId) :
    Gives P m w (binOp op t (.int k x) (.int k' y)) v := by
  unfold shiftOp at h
  split at h
  · cases h
  · rename_i hy
    cases op <;> simp only [reduceCtorEq] at h
    · cases h
      exact gives_int (a := k.wrap (x * 2 ^ min y.toNat k.bits)) (by simp [binOp, Op.shift, hy]) (by rw [wrapF_eq, bitsF_eq]; simp)
    · cases h
      exact gives_int (a := x.fdiv (2 ^ min y.toNat k.bits)) (by simp [binOp, Op.shift, hy]) (by rw [bitsF_eq]; simp)

theorem bytes_toList (b : ByteArray) : b.toList = b.data.toList := ByteArray.toList_eq b

theorem strOp_ok {op : BinOp} {a b : ByteArray} {v : Value} (h : strOp op a b = some v) (t : TypeId) : Gives P m w (binOp op t (.string a) (.string b)) v := by
  cases op <;> simp only [strOp, reduceCtorEq] at h <;> cases h
  · exact gives_bool (a := a.toList == b.toList) (by simp [binOp, Op.stringOp]) (by rw [bytes_toList, bytes_toList])
  · exact gives_bool (a := !(a.toList == b.toList)) (by simp [binOp, Op.stringOp]) (by rw [bytes_toList, bytes_toList])

theorem un_ok {op : UnOp} {x x' v : Value} (h : un op x = some v) (hx : VR m x x') : Gives P m w (Op.unary op x') v := by
  cases hx with
  | int k n =>
    cases op <;> simp only [un, reduceCtorEq] at h <;> cases h
    · exact gives_int (by simp [Op.unary, Op.intArith]; rfl) (by rw [wrapF_eq]; simp)
    · refine gives_int (a := k.wrap ((BitVec.ofInt k.bits (if k.signed then -1 else k.max) ^^^ BitVec.ofInt k.bits n).toNat : Int)) (by simp [Op.unary, Op.intBits]) ?_
      rw [← wrapF_eq, BitVec.toNat_xor, natF_eq, natF_eq]
      congr 2
      have : natF k (if k.signed = true then -1 else k.max) = modF k - 1 := by cases k <;> rfl
      rw [this]; rfl
  | bool b =>
    cases op <;> simp only [un, reduceCtorEq] at h <;> cases h
    exact gives_bool (by simp [Op.unary]) rfl
  | _ => cases op <;> simp [un] at h

theorem part_ok {t : TypeId} {it : TI} (ht : tinfo P t = some it) {cs : List Value} {cs' : Array Value} (hcs : VRs m cs cs'.toList) {off : Nat} {v : Value}
    (h : partOf it.agg cs off it.size = some v) : Gives P m w (part t cs' off) v := by
  unfold part
  unfold partOf at h
  unfold Gives
  rw [Sem.run_bind, run_isAgg ht]
  simp only [Result.andThen_ok]
  cases hagg : it.agg with
  | true =>
    simp only [hagg, cond_true] at h
    split at h
    · rename_i l hl
      cases h
      obtain ⟨e1, e2⟩ := cutN_eq hl
      refine ⟨.agg (cs'.extract off (off + it.size)), ?_, ?_⟩
      · simp [run_sizeOf ht]
      · refine .agg ?_
        have hlen := hcs.length
        refine VRs.of_get ?_ ?_
        · subst e1; simp at *; omega
        · intro i v v' hv hv'
          subst e1
          have hi : i < it.size := by
            rcases Nat.lt_or_ge i it.size with h' | h'
            · exact h'
            · rw [List.getElem?_eq_none (by simp; omega)] at hv; cases hv
          rw [List.getElem?_take_of_lt hi, List.getElem?_drop] at hv
          obtain ⟨u, hu, hur⟩ := hcs.get hv
          have : (cs'.extract off (off + it.size)).toList[i]? = cs'.toList[off + i]? := by
            rw [Array.toList_extract, List.extract_eq_take_drop, List.getElem?_take_of_lt (by omega), List.getElem?_drop]
          rw [this, hu] at hv'
          cases hv'; exact hur
    · cases h
  | false =>
    simp only [hagg, cond_false] at h
    rw [getN_eq] at h
    obtain ⟨v', hv', hvr⟩ := hcs.get h
    refine ⟨v', ?_, hvr⟩
    have : cs'[off]? = some v' := by simpa using hv'
    simp [this]

theorem cellsOf_tinfo {t : TypeId} {it : TI} (ht : tinfo P t = some it) : P.cellsOf t = it.size := by
  obtain ⟨info, d, z, h1, h2, h3, h4, -⟩ := tinfo_spec ht
  simp [Program.cellsOf, h1, h4]

theorem eqFs_ok {X : Ctx} (htie : Tied P X) {D : Nat} {eq : TypeId → Value → Value → Option Bool}
    (ih : ∀ (t : TypeId) (x y x' y' : Value) (b : Bool), eq t x y = some b → VR m x x' → VR m y y' → (Op.equalIn D t x' y').run P w = .ok b w)
    {xs ys : List Value} {xs' ys' : Array Value} (hx : VRs m xs xs'.toList) (hy : VRs m ys ys'.toList) {b : Bool} : ∀ (gs : List Field), (gs.all fun f => f.name != "_") = true →
    eqV.eqFs eq X xs ys (gs.map fun f => (f.offset, f.type, P.cellsOf f.type)) = some b → (Op.eqFields D xs' ys' gs).run P w = .ok b w
  | [], _, h => by simp [eqV.eqFs] at h; subst h; simp [Op.eqFields]
  | f :: gs, hn, h => by
    simp only [List.all_cons, Bool.and_eq_true] at hn
    simp only [List.map_cons, eqV.eqFs] at h
    split at h
    · cases h
    · rename_i it hit
      have ht := htie.tt _ _ hit
      rw [cellsOf_tinfo ht] at h
      split at h
      · rename_i a c ha hc
        obtain ⟨a', ha', har⟩ := part_ok (w := w) ht hx ha
        obtain ⟨c', hc', hcr⟩ := part_ok (w := w) ht hy hc
        have hne : f.name ≠ "_" := by simpa using hn.1
        simp only [Op.eqFields, if_pos hne, Sem.run_bind, ha', hc', Result.andThen_ok]
        cases hq : eq f.type a c with
        | none => rw [hq] at h; cases h
        | some q =>
          rw [hq] at h
          rw [ih _ _ _ _ _ _ hq har hcr]
          simp only [Result.andThen_ok]
          cases q with
          | true =>
            simp only [Bool.not_true, Bool.false_eq_true, if_false]
            exact eqFs_ok htie ih hx hy gs hn.2 h
          | false => cases h; simp
      · cases h

set_option maxHeartbeats 4000000 in
theorem eqV_ok {X : Ctx} (htie : Tied P X) : ∀ (d D : Nat) (t : TypeId) (x y x' y' : Value) (b : Bool), d ≤ D → eqV X d t x y = some b → VR m x x' → VR m y y' →
    (Op.equalIn D t x' y').run P w = .ok b w := by
  intro d
  induction d with
  | zero => intro D t x y x' y' b _ h; simp [eqV] at h
  | succ d ih =>
    intro D t x y x' y' b hD h hx hy
    obtain ⟨D, rfl⟩ : ∃ D', D = D' + 1 := ⟨D - 1, by omega⟩
    simp only [eqV] at h
    split at h
    · cases h
    · rename_i i hi
      have ht := htie.tt _ _ hi
      obtain ⟨dd, h1, h2, h3, h4⟩ := run_underlying ht w
      split at h
      · rename_i hk
        rw [hk] at h2
        rw [tkOf_bool h2] at h4
        cases hx; cases hy; cases h
        simp [Op.equalIn, _root_.Go.run_underlying h4]
      · rename_i hk
        rw [hk] at h2
        rw [tkOf_int h2] at h4
        cases hx; cases hy
        split at h
        · rename_i hkk; cases h; subst hkk
          simp [Op.equalIn, _root_.Go.run_underlying h4]
        · cases h
      · rename_i hk
        rw [hk] at h2
        rw [tkOf_str h2] at h4
        cases hx; cases hy; cases h
        rw [run_equalIn_string w D t _ _ h4, bytes_toList, bytes_toList]
      · rename_i hk
        rw [hk] at h2
        rw [tkOf_ptr h2] at h4
        cases hx
        cases hy <;> (cases h; simp [Op.equalIn, _root_.Go.run_underlying h4])
      · rename_i hne hk
        rw [hk] at h2
        rw [tkOf_ptr h2] at h4
        cases hy; cases h
        cases hx <;> first | exact (hne _ rfl).elim | exact (hne rfl).elim | simp [Op.equalIn, _root_.Go.run_underlying h4]
      · rename_i hk
        rw [hk] at h2
        rw [tkOf_slice h2] at h4
        cases hx
        cases hy <;> (cases h; simp [Op.equalIn, _root_.Go.run_underlying h4])
      · rename_i hne hk
        rw [hk] at h2
        rw [tkOf_slice h2] at h4
        cases hy; cases h
        cases hx <;> first | exact (hne _ _ _ rfl).elim | exact (hne rfl).elim | simp [Op.equalIn, _root_.Go.run_underlying h4]
      · rename_i hk
        rw [hk] at h2
        rw [tkOf_map h2] at h4
        cases hx
        cases hy <;> (cases h; simp [Op.equalIn, _root_.Go.run_underlying h4])
      · rename_i hne hk
        rw [hk] at h2
        rw [tkOf_map h2] at h4
        cases hy; cases h
        cases hx <;> first | exact (hne _ rfl).elim | exact (hne rfl).elim | simp [Op.equalIn, _root_.Go.run_underlying h4]
      · rename_i hk
        rw [hk] at h2
        obtain ⟨_, _, _, e⟩ := tkOf_func h2
        rw [e] at h4
        cases hx; cases hy; cases h
        simp [Op.equalIn, _root_.Go.run_underlying h4]
      · rename_i hk
        rw [hk] at h2
        obtain ⟨_, _, _, e⟩ := tkOf_func h2
        rw [e] at h4
        cases hx; cases hy; cases h
        simp [Op.equalIn, _root_.Go.run_underlying h4]
      · rename_i hk
        rw [hk] at h2
        obtain ⟨_, _, _, e⟩ := tkOf_func h2
        rw [e] at h4
        cases hx; cases hy; cases h
        simp [Op.equalIn, _root_.Go.run_underlying h4]
      · rename_i fs xs ys hk
        rw [hk] at h2
        obtain ⟨gs, e, e'⟩ := tkOf_struct h2
        cases hpl : i.plain with
        | false => simp [hpl] at h
        | true =>
          simp only [hpl, cond_true] at h
          cases hx with
          | agg hxs =>
            cases hy with
            | agg hys =>
              obtain ⟨info, d0, z, g1, g2, g3, g4, g5, g6, g7, g8, g9, -⟩ := tinfo_spec ht
              rw [h4] at g2; cases g2
              rw [e] at g9 h4
              rw [hpl] at g9
              have g9 := g9.symm
              simp only [plainT, Bool.and_eq_true, Bool.not_eq_true'] at g9
              have hf : P.fieldsOf t = gs := by simp [Program.fieldsOf, h4]
              rw [run_equalIn_struct w D t _ _ (by rw [hf]; exact h4) g9.1.1, hf]
              subst e'
              refine eqFs_ok htie (fun t x y x' y' b hq => ih D t x y x' y' b (by omega) hq) hxs hys _ g9.2 h
      · cases h

theorem eqV_agg {X : Ctx} (htie : Tied P X) {d : Nat} {t : TypeId} {a c : Array Value} {b : Bool} (h : eqV X (d + 1) t (.agg a) (.agg c) = some b) : P.eqGuardType P.depth t = false := by
  simp only [eqV] at h
  split at h
  · cases h
  · rename_i i hi
    obtain ⟨info, d0, z, g1, g2, g3, g4, g5, g6, g7, g8, g9, -⟩ := tinfo_spec (htie.tt _ _ hi)
    cases hk : i.k <;> simp only [hk, reduceCtorEq] at h
    rename_i fs
    rw [hk] at g6
    obtain ⟨gs, e, e'⟩ := tkOf_struct g6
    cases hpl : i.plain with
    | false => simp [hpl] at h
    | true =>
      rw [hpl, e] at g9
      have g9 := g9.symm
      simp only [plainT, Bool.and_eq_true, Bool.not_eq_true'] at g9
      exact g9.1.2

theorem eqV_nilIface {X : Ctx} {d : Nat} {t : TypeId} : eqV X (d + 1) t .nilIface .nilIface = none := by
  simp only [eqV]
  split
  · rfl
  · rename_i i _
    cases hk : i.k <;> simp only []

theorem eqV_float {X : Ctx} {d : Nat} {t : TypeId} {k k' : FloatKind} {x y : Nat} : eqV X (d + 1) t (.float k x) (.float k' y) = none := by
  simp only [eqV]
  split
  · rfl
  · rename_i i _
    cases hk : i.k <;> simp only []

theorem eqV_complex {X : Ctx} {d : Nat} {t : TypeId} {k k' : FloatKind} {x y x' y' : Nat} : eqV X (d + 1) t (.complex k x y) (.complex k' x' y') = none := by
  simp only [eqV]
  split
  · rfl
  · rename_i i _
    cases hk : i.k <;> simp only []

theorem eql_same {X : Ctx} {t : TypeId} {x y x' y' : Value} {b : Bool} (h : eqV X 100 t x y = some b) (hx : VR m x x') (hy : VR m y y')
    (hn1 : ∀ (k : IntKind) (a : Int) (k' : IntKind) (b : Int), x = .int k a → y = .int k' b → False) (hn2 : ∀ (a b : ByteArray), x = .string a → y = .string b → False) :
    (binOp .eql t x' y' = do pure (.bool (← Op.equal t x' y'))) ∧ (binOp .neq t x' y' = do pure (.bool (!(← Op.equal t x' y')))) := by
  cases hx with
  | int k n => cases hy <;> first | exact ⟨rfl, rfl⟩ | exact (hn1 _ _ _ _ rfl rfl).elim
  | string s => cases hy <;> first | exact ⟨rfl, rfl⟩ | exact (hn2 _ _ rfl rfl).elim
  | float k n => cases hy <;> first | exact ⟨rfl, rfl⟩ | (rw [eqV_float] at h; cases h)
  | complex k n n' => cases hy <;> first | exact ⟨rfl, rfl⟩ | (rw [eqV_complex] at h; cases h)
  | _ => exact ⟨rfl, rfl⟩

theorem guard_ok {X : Ctx} (htie : Tied P X) {op : BinOp} {t : TypeId} {x y x' y' : Value} {b : Bool} (h : eqV X 100 t x y = some b) (hx : VR m x x') (hy : VR m y y') (ox oy : Operand) :
    (eqGuard op t ox oy x' y').run P w = .ok () w := by
  cases hx with
  | nilIface =>
    cases hy with
    | nilIface => rw [eqV_nilIface] at h; cases h
    | _ => cases op <;> simp [eqGuard]
  | agg _ =>
    cases hy with
    | agg _ => exact run_eqGuard_agg w op t ox oy _ _ (eqV_agg htie h)
    | _ => cases op <;> simp [eqGuard]
  | _ => cases op <;> simp [eqGuard]

/-- Comparisons and arithmetic. -/
theorem bin_ok {X : Ctx} (htie : Tied P X) {op : BinOp} {t : TypeId} {x y x' y' v : Value} (h : bin X op t x y = some v) (hx : VR m x x') (hy : VR m y y') (ox oy : Operand) :
    Gives P m w (do eqGuard op t ox oy x' y'; binOp op t x' y') v := by
  have two : ∀ (s : Sem Value), (eqGuard op t ox oy x' y').run P w = .ok () w → Gives P m w s v → Gives P m w (do eqGuard op t ox oy x' y'; s) v := by
    intro s h1 ⟨v', h2, h3⟩
    exact ⟨v', by rw [Sem.run_bind, h1]; exact h2, h3⟩
  unfold bin at h
  split at h
  · cases hx; cases hy
    refine two _ (by cases op <;> simp [eqGuard]) ?_
    split at h
    · exact shiftOp_ok h t
    · exact shiftOp_ok h t
    · split at h
      · rename_i hk; subst hk; exact intOp_ok h t
      · cases h
  · cases hx; cases hy
    exact two _ (by cases op <;> simp [eqGuard]) (strOp_ok h t)
  · rename_i hn1 hn2
    split at h
    · split at h
      · rename_i b hb; cases h
        refine two _ (guard_ok htie hb hx hy ox oy) ?_
        refine gives_bool (a := b) ?_ rfl
        have hq := eqV_ok (w := w) htie 100 10000 t x y x' y' b (by omega) hb hx hy
        rw [(eql_same hb hx hy hn1 hn2).1]
        simp only [Op.equal, Op.maxDepth, Sem.run_bind, hq, Result.andThen_ok, Sem.run_pure]
      · cases h
    · split at h
      · rename_i b hb; cases h
        refine two _ (guard_ok htie hb hx hy ox oy) ?_
        refine gives_bool (a := !b) ?_ rfl
        have hq := eqV_ok (w := w) htie 100 10000 t x y x' y' b (by omega) hb hx hy
        rw [(eql_same hb hx hy hn1 hn2).2]
        simp only [Op.equal, Op.maxDepth, Sem.run_bind, hq, Result.andThen_ok, Sem.run_pure]
      · cases h
    · cases h
end
end Ev
end Go.Proofs.Ytglkgmomnbdkoaa
