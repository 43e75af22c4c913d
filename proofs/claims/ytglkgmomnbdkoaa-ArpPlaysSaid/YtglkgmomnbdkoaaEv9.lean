/- Copying, converting, maps: the evaluator's and the model's. -/
import Derived.Test.YtglkgmomnbdkoaaEv8
namespace Go.Proofs.Ytglkgmomnbdkoaa
namespace Ev

section
variable {P : Program} {X : Ctx} {S : Base} {m : Mu} {H : Heap} {w : World}

theorem copy_ok (htie : Tied P X) (hext : ExtOk X S) (hr : Rel S m H w) {dt ty : TypeId} (ts : List TypeId) {d d' s s' v : Value} {H' : Heap} (h : copy X H dt d s = some (v, H')) (hd : VR m d d') (hs : VR m s s') :
    Makes P S H m w (Builtin.copy_ (dt :: ts).toArray ty #[d', s']) v H' := by
  unfold copy at h
  split at h
  · rename_i i base dLen dCap hi
    have hti := htie.tt _ _ hi
    obtain ⟨dd, d1, d2, d3, d4⟩ := run_underlying hti w
    split at h
    · rename_i e hk
      rw [hk] at d2
      have e' := tkOf_slice d2
      subst e'
      split at h
      · rename_i ie sl hie hsl
        have hte := htie.tt _ _ hie
        obtain ⟨hl1, hl2⟩ := lenOf_ok (P := P) (w := w) hsl hs
        cases hcs : srcCells X H ie.size (Nat.min sl dLen) s with
        | none => simp only [hcs, reduceCtorEq] at h
        | some cs =>
          simp only [hcs] at h
          obtain ⟨n', hn1, hn2, hn3⟩ := srcCells_ok (P := P) hext hr hcs hs (fun a L c e => Nat.le_trans (Nat.min_le_left _ _) (hl2 a L c e))
          have hd' : ∃ base' c', d' = .slice base' dLen c' ∧ (base = none → base' = none) := by
            cases hd <;> exact ⟨_, _, rfl, by simp⟩
          have run : ∀ (base' : Option Addr) (c' : Nat) (w' : World), (match base' with | some a => storeCells a n' | none => pure ()).run P w = .ok () w' →
              (Builtin.copy_ (dt :: ts).toArray ty #[.slice base' dLen c', s']).run P w = .ok (.int .i64 ((Nat.min sl dLen : Nat) : Int)) w' := by
            intro base' c' w' hw
            cases base' with
            | none =>
              simp at hw; subst hw
              simp [Builtin.copy_, _root_.Go.run_underlying d4, run_sizeOf hte, hl1, hn1, goInt]
            | some a =>
              simp only at hw
              simp [Builtin.copy_, _root_.Go.run_underlying d4, run_sizeOf hte, hl1, hn1, hw, goInt]
          split at h
          · cases h
            obtain ⟨base', c', rfl, hb⟩ := hd'
            have := hb rfl; subst this
            exact ⟨m, _, w, (.of_next), run none c' w (by simp), .int _ _, hr⟩
          · rename_i a
            cases hz : Nat.beq (Nat.min sl dLen) 0 with
            | true =>
              have hz0 := Nat.eq_of_beq_eq_true hz
              simp only [hz, cond_true] at h
              cases h
              obtain ⟨base', c', rfl, hb⟩ := hd'
              have hn'0 : n' = [] := by
                have := hn2.length; rw [hn3, hz0] at this; simpa using this.symm
              subst hn'0
              exact ⟨m, _, w, (.of_next), run base' c' w (by cases base' <;> simp [storeCells]), .int _ _, hr⟩
            | false =>
              have hne : Nat.min sl dLen ≠ 0 := by intro e; rw [e] at hz; cases hz
              have hdl : dLen ≠ 0 := by intro e; subst e; simp at hne
              simp only [hz, cond_false] at h
              split at h
              · rename_i H1 hwr
                cases h
                have fin : ∀ a' c', AR m a a' → Makes P S H m w (Builtin.copy_ (dt :: ts).toArray ty #[.slice (some a') dLen c', s']) (.int .i64 ((Nat.min sl dLen : Nat) : Int)) H' := by
                  intro a' c' har
                  obtain ⟨w', q1, q2, -⟩ := wrN_ok hr (P := P) hwr har hn2
                  exact ⟨m, _, w', (.of_next), run (some a') c' w' q1, .int _ _, q2⟩
                cases hd with
                | @sl b L o o' l c hb' ho hc =>
                  have ho : o' = _ := ho.resolve_left (by omega)
                  exact fin _ _ (.here _ _ hb' ho)
                | @slU b L o o' l c c' z hb' hc ho hl' hf =>
                  have ho : o' = _ := ho.resolve_left (by omega)
                  exact fin _ _ (.here _ _ hb' ho)
                | slX b o l c hc => exact fin _ _ (.outside _ _)
                | slZ b o a => exact absurd rfl hdl
              · cases h
      · cases h
    · cases h
  · cases h

/-- A living block is marked behind its end. -/
theorem mark_ok (hr : Rel S m H w) {b : Nat} {L : Loc} {l : List Value} {e : TypeId} (hg : H.get b = some (.cells l e)) (hm : m b = some L) (o : Nat) :
    ∃ w', (markStringish ⟨L.blk, o, none⟩).run P w = .ok () w' ∧ Rel S m H w' := by
  obtain ⟨L', hm', c, fz, e', h1, h2, h3, h4, h5⟩ := hr.alive _ _ hg
  rw [hm] at hm'; cases hm'
  have hlt : L.blk < w.heap.size := hr.bound _ _ hm
  refine ⟨w.freeze ⟨L.blk, c.size, none⟩ 1, ?_, ?_⟩
  · simp [markStringish, World.shape?, h1]
  · have hheap : ∀ j, (w.freeze ⟨L.blk, c.size, none⟩ 1).heap[j]? = if L.blk = j then some (.cells c e' (if fz.1 == fz.2 then (c.size, c.size + 1) else (min fz.1 c.size, max fz.2 (c.size + 1)))) else w.heap[j]? := by
      intro j
      simp only [World.freeze, Nat.one_ne_zero, if_false, Array.getElem?_modify]
      by_cases hj : L.blk = j
      · subst hj; simp [h1]
      · simp [hj]
    have hsz : (w.freeze ⟨L.blk, c.size, none⟩ 1).heap.size = w.heap.size := by simp [World.freeze]
    refine ⟨hr.wf, ?_, hr.inj, ?_, hr.open_, ?_, hr.os, hr.out, hr.tape⟩
    · intro j B hj
      obtain ⟨Lj, hmj, hbr⟩ := hr.alive j B hj
      refine ⟨Lj, hmj, ?_⟩
      by_cases hjb : Lj.blk = L.blk
      · have := hr.inj j b B _ Lj L hj hg hmj hm hjb
        subst this
        rw [hm] at hmj; cases hmj
        rw [hg] at hj; cases hj
        refine ⟨c, _, e', by rw [hheap, if_pos rfl], h2, ?_, h4, h5⟩
        by_cases hf : fz.1 = fz.2
        · simp [hf]; omega
        · have hf' : (fz.1 == fz.2) = false := by simpa using hf
          rw [hf']
          have := h3.resolve_left hf
          right
          simp only [Bool.false_eq_true, if_false]
          omega
      · exact hbr.mono (Mu.le_refl _) (by rw [hheap, if_neg (fun e => hjb e.symm)])
    · intro j Lj hj; rw [hsz]; exact hr.bound j Lj hj
    · intro j hj
      have := hr.kept j hj
      have hne : L.blk ≠ j := fun e => hr.open_ _ _ _ hg hm (e ▸ hj)
      exact ⟨by rw [hsz]; exact this.1, by rw [hheap, if_neg hne]; exact this.2⟩

theorem bytesOf_ok {bs : List UInt8} : ∀ {l : List Value} {l' : List Value}, bytesOf l = some bs → VRs m l l' → ∃ ns : List Int, l' = ns.map (Value.int .u8) ∧ bs = ns.map fun n => UInt8.ofNat n.toNat := by
  intro l
  induction l generalizing bs with
  | nil => intro l' h hv; cases hv; simp [bytesOf] at h; exact ⟨[], rfl, by simp [h]⟩
  | cons v l ih =>
    intro l' h hv
    cases hv with
    | cons hx hl =>
      unfold bytesOf at h
      split at h
      · rename_i e; cases e
      · rename_i n l2 e
        cases e
        split at h
        · rename_i r hr
          cases h; cases hx
          obtain ⟨ns, e1, e2⟩ := ih hr hl
          exact ⟨n :: ns, by simp [e1], by simp [e2]⟩
        · cases h
      · cases h

theorem foldl_push (ns : List Int) (s : ByteArray) : (ns.foldl (fun r n => r.push (UInt8.ofNat n.toNat)) s).data.toList = s.data.toList ++ ns.map fun n => UInt8.ofNat n.toNat := by
  induction ns generalizing s with
  | nil => simp
  | cons n ns ih => rw [List.foldl_cons, ih]; simp [ByteArray.push]

/-- A conversion to a string reads. -/
theorem conv_str (htie : Tied P X) (hext : ExtOk X S) (hr : Rel S m H w) {H' : Heap} {src dst : TypeId} {x x' v : Value} {i : TI} (hd : X.tt.get dst = some i) (hk : i.k = .str) (h : conv X H src dst x = some (v, H')) (hx : VR m x x') :
    ∃ v', VR m v v' ∧ (convert src dst x').run P w = .ok v' w := by
  unfold conv at h
  split at h
  · rename_i is i2 his hi
    rw [hd] at hi
    cases hi
    obtain ⟨sd, s1, s2, s3, s4⟩ := run_underlying (htie.tt _ _ his) w
    obtain ⟨dd, d1, d2, d3, d4⟩ := run_underlying (htie.tt _ _ hd) w
    split at h
    · rename_i hk2; rw [hk] at hk2; cases hk2
    · rename_i hk hk'
      rw [hk] at s2; rw [hk'] at d2
      have := tkOf_str s2; subst this
      have := tkOf_str d2; subst this
      cases hx; cases h
      exact ⟨_, .string _, by simp [convert, s1, d1]⟩
    · rename_i hk2; rw [hk] at hk2; cases hk2
    · rename_i e a l c hk hk'
      rw [hk] at s2; rw [hk'] at d2
      have := tkOf_slice s2; subst this
      have := tkOf_str d2; subst this
      split at h
      · rename_i ie hie
        obtain ⟨ed, e1, e2, e3, e4⟩ := run_underlying (htie.tt _ _ hie) w
        split at h
        · rename_i hke
          rw [hke] at e2
          have := tkOf_int e2; subst this
          split at h
          · rename_i bs hbs
            cases h
            cases hcs : cellsAt X H l (.slice a l c) with
            | none => simp [hcs] at hbs
            | some cs =>
              simp only [hcs, Option.bind_some] at hbs
              have hcs' : cellsAt X H (l * 1) (.slice a l c) = some cs := by rw [Nat.mul_one]; exact hcs
              obtain ⟨l', k1, k2, k3⟩ := cellsAt_ok (P := P) hext hr hcs' hx (by intro a L c e; cases e; omega)
              obtain ⟨ns, n1, n2⟩ := bytesOf_ok hbs k2
              subst n1
              have hxs : ∃ a' c', x' = .slice a' l c' := by cases hx <;> exact ⟨_, _, rfl⟩
              obtain ⟨a', c', rfl⟩ := hxs
              refine ⟨.string ⟨⟨bs⟩⟩, .string _, ?_⟩
              have hrun : (Conv.bytesToString (.slice a' l c')).run P w = .ok (.string ⟨⟨bs⟩⟩) w := by
                cases a' with
                | none =>
                  have : ns = [] := by
                    have hl := k2.length
                    simp [Builtin.firstCells] at k1
                    simpa using k1
                  subst this
                  rw [n2]; rfl
                | some ad =>
                  rw [run_bytesToString w ad l c' ns (by simpa [Builtin.firstCells] using k1)]
                  congr 1
                  congr 1
                  apply ByteArray.ext
                  apply Array.toList_inj.1
                  rw [foldl_push, n2]
                  rfl
              simp [convert, s1, d1, e1, hrun]
          · cases h
        · cases h
      · cases h
    · rename_i hk2; rw [hk] at hk2; cases hk2
    · cases h
  · cases h

theorem conv_ok (htie : Tied P X) (hext : ExtOk X S) (hr : Rel S m H w) {H' : Heap} (hfree : Free H H' m) {src dst : TypeId} {x x' v : Value} (h : conv X H src dst x = some (v, H')) (hx : VR m x x') :
    Makes P S H m w (convert src dst x') v H' := by
  unfold conv at h
  split at h
  · rename_i is i his hi
    obtain ⟨sd, s1, s2, s3, s4⟩ := run_underlying (htie.tt _ _ his) w
    obtain ⟨dd, d1, d2, d3, d4⟩ := run_underlying (htie.tt _ _ hi) w
    split at h
    · rename_i k k1 n hk
      rw [hk] at d2
      have := tkOf_int d2; subst this
      cases hx; cases h
      exact ⟨m, .int k (wrapF k n), w, (.of_next), by simp [convert, s1, d1, Conv.intToInt, wrapF_eq], .int _ _, hr⟩
    · rename_i hk hk'
      rw [hk] at s2; rw [hk'] at d2
      have := tkOf_str s2; subst this
      have := tkOf_str d2; subst this
      cases hx; cases h
      exact ⟨m, _, w, (.of_next), by simp [convert, s1, d1], .string _, hr⟩
    · rename_i e s hk hk'
      rw [hk] at s2; rw [hk'] at d2
      have := tkOf_str s2; subst this
      have := tkOf_slice d2; subst this
      split at h
      · rename_i ie hie
        obtain ⟨ed, e1, e2, e3, e4⟩ := run_underlying (htie.tt _ _ hie) w
        split at h
        · rename_i hke
          rw [hke] at e2
          have := tkOf_int e2; subst this
          cases hx with
          | string =>
            cases h
            let cap := (Question.appendCap s.size 0 e).cut (w.tape w.drawn (.appendCap s.size 0 e))
            have hcap : s.size ≤ cap := by simp only [cap, Question.cut]; omega
            have hself : ∀ l : List UInt8, VRs m (l.map fun b => Value.int .u8 (b.toNat : Int)) (l.map fun b => Value.int .u8 (b.toNat : Int)) := by
              intro l
              induction l with
              | nil => exact .nil
              | cons b l ih => exact .cons (.int _ _) ih
            let row : Array Value := s.data.map (fun b => Value.int .u8 (b.toNat : Int)) ++ Array.replicate (cap - s.size) (.int .u8 0)
            have hrow : row.size = cap := by simp [row]; omega
            have hfree' : m H.next = none := hfree _ (Nat.le_refl _) (by simp)
            have hal := alloc_rel (e := e) (hr.drew : Rel S m H w.drew) hfree' (hself s.data.toList) (c := row) (by simp [row]) (by
              intro i v' hi
              have hlt : i < (s.data.toList.map fun b => Value.int .u8 (b.toNat : Int)).length := by
                rcases Nat.lt_or_ge i (s.data.toList.map fun b => Value.int .u8 (b.toNat : Int)).length with h' | h'
                · exact h'
                · rw [List.getElem?_eq_none h'] at hi; cases hi
              simp only [row]
              rw [Array.getElem?_append_left (by simpa using hlt)]
              simpa using hi)
            obtain ⟨w', q1, q2⟩ := mark_ok (P := P) hal (b := H.next) (l := s.data.toList.map fun b => .int .u8 (b.toNat : Int)) (e := e) (by simp) (L := ⟨w.heap.size, 0, row.size⟩) (by simp [Mu.set]) 0
            refine ⟨_, .slice (some ⟨w.heap.size, 0, none⟩) s.size cap, w', .alloc hfree' ⟨w.heap.size, 0, row.size⟩ rfl, ?_, ?_, q2⟩
            · have q1' : (markStringish ⟨w.heap.size, 0, none⟩).run P (w.drew.alloc (.cells row e)) = .ok () w' := q1
              simp [convert, s1, d1, e1, Conv.stringToBytes, Question.forced, newRow]
              simp only [row, cap] at q1'
              rw [q1']
              simp [cap]
            · exact .slU (L := ⟨w.heap.size, 0, row.size⟩) 0 0 _ _ _ 1 (by simp [Mu.set]) rfl (.inr rfl) hcap (by simp only []; omega)
        · cases h
      · cases h
    · rename_i e a l c hk hk'
      rw [hk] at s2; rw [hk'] at d2
      have := tkOf_slice s2; subst this
      have := tkOf_str d2; subst this
      split at h
      · rename_i ie hie
        obtain ⟨ed, e1, e2, e3, e4⟩ := run_underlying (htie.tt _ _ hie) w
        split at h
        · rename_i hke
          rw [hke] at e2
          have := tkOf_int e2; subst this
          split at h
          · rename_i bs hbs
            cases h
            cases hcs : cellsAt X H l (.slice a l c) with
            | none => simp [hcs] at hbs
            | some cs =>
              simp only [hcs, Option.bind_some] at hbs
              have hcs' : cellsAt X H (l * 1) (.slice a l c) = some cs := by rw [Nat.mul_one]; exact hcs
              obtain ⟨l', k1, k2, k3⟩ := cellsAt_ok (P := P) hext hr hcs' hx (by intro a L c e; cases e; omega)
              obtain ⟨ns, n1, n2⟩ := bytesOf_ok hbs k2
              subst n1
              have hxs : ∃ a' c', x' = .slice a' l c' := by cases hx <;> exact ⟨_, _, rfl⟩
              obtain ⟨a', c', rfl⟩ := hxs
              refine ⟨m, .string ⟨⟨bs⟩⟩, w, (.of_next), ?_, .string _, hr⟩
              have hrun : (Conv.bytesToString (.slice a' l c')).run P w = .ok (.string ⟨⟨bs⟩⟩) w := by
                cases a' with
                | none =>
                  have : ns = [] := by
                    have hl := k2.length
                    simp [Builtin.firstCells] at k1
                    simpa using k1
                  subst this
                  rw [n2]; rfl
                | some ad =>
                  rw [run_bytesToString w ad l c' ns (by simpa [Builtin.firstCells] using k1)]
                  congr 1
                  congr 1
                  apply ByteArray.ext
                  apply Array.toList_inj.1
                  rw [foldl_push, n2]
                  rfl
              simp [convert, s1, d1, e1, hrun]
          · cases h
        · cases h
      · cases h
    · rename_i e e2 a l c hk hk'
      rw [hk] at s2; rw [hk'] at d2
      have := tkOf_slice s2; subst this
      have := tkOf_slice d2; subst this
      cases hsd : Nat.beq src dst with
      | false => simp [hsd] at h
      | true =>
        have hsd' := Nat.eq_of_beq_eq_true hsd
        subst hsd'
        simp only [hsd, cond_true] at h
        rw [s4] at d4; cases d4
        split at h
        · rename_i ie hie
          obtain ⟨ed, e1, e2', e3, e4⟩ := run_underlying (htie.tt _ _ hie) w
          split at h
          · rename_i hke
            rw [hke] at e2'
            have := tkOf_int e2'; subst this
            split at h
            · rename_i cs ce hsp hg
              cases h
              have fin : ∀ (a' : Addr) (l c' : Nat) (b : Nat) (L : Loc) (o : Nat), H.get b = some (.cells cs ce) → m b = some L → a' = ⟨L.blk, o, none⟩ → VR m (.slice (some a) l c) (.slice (some a') l c') →
                  Makes P S H m w (convert src src (.slice (some a') l c')) (.slice (some a) l c) H := by
                intro a' l c' b L o hg hb e hvr
                subst e
                obtain ⟨w', q1, q2⟩ := mark_ok (P := P) hr hg hb o
                exact ⟨m, _, w', (.of_next), by simp [convert, s1, e1, q1], hvr, q2⟩
              cases hx with
              | @sl b L o o' l c hb' ho hc => exact fin _ _ _ b L o' hg hb' rfl (.sl _ _ _ _ hb' ho hc)
              | @slU b L o o' l c c' z hb' hc ho hl' hf => exact fin _ _ _ b L o' hg hb' rfl (.slU _ _ _ _ _ _ hb' hc ho hl' hf)
              | slX b o l c hc => cases hsp
              | slZ b o a => cases hsp
            · cases h
          · cases h
        · cases h
    · cases h
  · cases h

end
end Ev
end Go.Proofs.Ytglkgmomnbdkoaa
