/- A cache as it lies in memory, and its map. -/
import Derived.Test.YtglkgmomnbdkoaaEth
namespace Go.Proofs.Ytglkgmomnbdkoaa
namespace Ev
variable {ext : Nat → Nat → Option Value} {H : Heap}

/-- A neighbour: known or asked for. -/
structure En where
  known : Bool
  mac : Int
  at_ : Int
  tries : Int
  wait : List (List Int)
deriving DecidableEq

def en0 : En := ⟨false, 0, 0, 0, []⟩
def enV (e : En) (wv : Value) : Value := .agg ⟨[.bool e.known, .int .u64 e.mac, .int .i64 e.at_, .int .i64 e.tries, wv]⟩

/-- Bodies that wait, behind their slices. -/
def Bodies (ext : Nat → Nat → Option Value) (H : Heap) (fp : Nat → Prop) : List Value → List (List Int) → Prop
  | [], [] => True
  | v :: vs, b :: bs => (BAt ext H v b ∧ ∀ k, bk v = some k → fp k) ∧ Bodies ext H fp vs bs
  | _, _ => False

theorem Bodies.length {fp : Nat → Prop} : ∀ {vs : List Value} {bs : List (List Int)}, Bodies ext H fp vs bs → vs.length = bs.length
  | [], [], _ => rfl
  | v :: vs, b :: bs, h => by simp [Bodies.length h.2]
  | [], _ :: _, h => h.elim
  | _ :: _, [], h => h.elim

theorem Bodies.kp {fp fp' S : Nat → Prop} {H' : Heap} (hk : Kp S H H') (hS : ∀ b, fp b → ¬ S b) (hf : ∀ b, fp b → fp' b) : ∀ {vs : List Value} {bs : List (List Int)}, Bodies ext H fp vs bs → Bodies ext H' fp' vs bs
  | [], [], _ => trivial
  | v :: vs, b :: bs, h => ⟨⟨h.1.1.kp hk fun b hb => hS b (h.1.2 b hb), fun k hk' => hf k (h.1.2 k hk')⟩, Bodies.kp hk hS hf h.2⟩
  | [], _ :: _, h => h.elim
  | _ :: _, [], h => h.elim

theorem Bodies.append {fp : Nat → Prop} : ∀ {vs us : List Value} {bs cs : List (List Int)}, Bodies ext H fp vs bs → Bodies ext H fp us cs → Bodies ext H fp (vs ++ us) (bs ++ cs)
  | [], us, [], cs, _, h => h
  | v :: vs, us, b :: bs, cs, h, h' => ⟨h.1, Bodies.append h.2 h'⟩
  | [], _, _ :: _, _, h, _ => h.elim
  | _ :: _, _, [], _, h, _ => h.elim

theorem Bodies.one {fp : Nat → Prop} : ∀ {vs : List Value} {bs : List (List Int)}, Bodies ext H fp vs bs → vs.all Ev.one = true
  | [], [], _ => rfl
  | v :: vs, b :: bs, h => by
    obtain ⟨p, c, e⟩ := h.1.1.shape
    simp only [List.all_cons, Bodies.one h.2, e, one_slice, Bool.and_self]
  | [], _ :: _, h => h.elim
  | _ :: _, [], h => h.elim

theorem Bodies.get {fp : Nat → Prop} : ∀ {vs : List Value} {bs : List (List Int)}, Bodies ext H fp vs bs → ∀ {i : Nat} {b : List Int}, bs[i]? = some b → ∃ v, vs[i]? = some v ∧ BAt ext H v b
  | [], [], _, i, b, h => by simp at h
  | v :: vs, c :: bs, h, 0, b, hb => by simp at hb; subst hb; exact ⟨v, rfl, h.1.1⟩
  | v :: vs, c :: bs, h, i + 1, b, hb => by simpa using Bodies.get h.2 (i := i) (by simpa using hb)
  | [], _ :: _, h, _, _, _ => h.elim
  | _ :: _, [], h, _, _, _ => h.elim

/-- What waits, as it lies. -/
structure WAt (ext : Nat → Nat → Option Value) (H : Heap) (fp : Nat → Prop) (wv : Value) (ws : List (List Int)) : Prop where
  ex : ∃ vs p c, wv = .slice p ws.length c ∧ cellsAt (Z ext) H ws.length wv = some vs ∧ Bodies ext H fp vs ws
  lt : ∀ b, bk wv = some b → b < H.next ∧ fp b

theorem WAt.kp {fp fp' S : Nat → Prop} {H' : Heap} {wv : Value} {ws : List (List Int)} (h : WAt ext H fp wv ws) (hk : Kp S H H') (hS : ∀ b, fp b → ¬ S b) (hf : ∀ b, fp b → fp' b) : WAt ext H' fp' wv ws := by
  obtain ⟨vs, p, c, e, h1, h2⟩ := h.ex
  exact ⟨⟨vs, p, c, e, cellsAt_kp hk h1 (fun b hb => (h.lt b hb).1) (fun b hb => hS b (h.lt b hb).2), h2.kp hk hS hf⟩, fun b hb => ⟨Nat.lt_of_lt_of_le (h.lt b hb).1 hk.le, hf b (h.lt b hb).2⟩⟩

theorem WAt.nil (fp : Nat → Prop) : WAt ext H fp (.slice none 0 0) [] := ⟨⟨[], none, 0, rfl, rfl, trivial⟩, fun b hb => by simp [bk] at hb⟩
theorem WAt.one {fp : Nat → Prop} {wv : Value} {ws : List (List Int)} (h : WAt ext H fp wv ws) : Ev.one wv = true := by
  obtain ⟨vs, p, c, e, -, -⟩ := h.ex
  rw [e]; simp

/-- The map's entries. -/
def EAt (ext : Nat → Nat → Option Value) (H : Heap) (fp : Nat → Prop) : List MapEntry → List (Int × En) → Prop
  | [], [] => True
  | m :: ms, a :: xs => (m.key = .int .u32 a.1 ∧ ∃ wv, m.val = enV a.2 wv ∧ WAt ext H fp wv a.2.wait) ∧ EAt ext H fp ms xs
  | _, _ => False

theorem EAt.length {fp : Nat → Prop} : ∀ {ms : List MapEntry} {xs : List (Int × En)}, EAt ext H fp ms xs → ms.length = xs.length
  | [], [], _ => rfl
  | m :: ms, a :: xs, h => by simp [EAt.length h.2]
  | [], _ :: _, h => h.elim
  | _ :: _, [], h => h.elim

theorem EAt.kp {fp fp' S : Nat → Prop} {H' : Heap} (hk : Kp S H H') (hS : ∀ b, fp b → ¬ S b) (hf : ∀ b, fp b → fp' b) : ∀ {ms : List MapEntry} {xs : List (Int × En)}, EAt ext H fp ms xs → EAt ext H' fp' ms xs
  | [], [], _ => trivial
  | m :: ms, a :: xs, h => by
    obtain ⟨⟨h1, wv, h2, h3⟩, h4⟩ := h
    exact ⟨⟨h1, wv, h2, h3.kp hk hS hf⟩, EAt.kp hk hS hf h4⟩
  | [], _ :: _, h => h.elim
  | _ :: _, [], h => h.elim

/-! a list as a map -/
def fnd (k : Int) : List (Int × En) → Option En
  | [] => none
  | a :: l => if k = a.1 then some a.2 else fnd k l
def put (k : Int) (e : En) : List (Int × En) → List (Int × En)
  | [] => [(k, e)]
  | a :: l => if k = a.1 then (k, e) :: l else a :: put k e l
def del (k : Int) : List (Int × En) → List (Int × En)
  | [] => []
  | a :: l => if k = a.1 then l else a :: del k l

theorem keyFind_shift (key : Value) : ∀ (es : List MapEntry) (i d : Nat), keyFind key es (i + d) = (keyFind key es i).map (Option.map fun q => (q.1 + d, q.2))
  | [], i, d => rfl
  | e :: es, i, d => by
    simp only [keyFind]
    split
    · split
      · split
        · rfl
        · rw [show i + d + 1 = i + 1 + d by omega]; exact keyFind_shift _ es (i + 1) d
      · rfl
    · rfl

/-- Where a key is found. -/
theorem EAt.find {fp : Nat → Prop} {k : Int} : ∀ {ms : List MapEntry} {xs : List (Int × En)}, EAt ext H fp ms xs →
    (∃ e j wv, fnd k xs = some e ∧ keyFind (.int .u32 k) ms 0 = some (some (j, enV e wv)) ∧ WAt ext H fp wv e.wait ∧
      (∀ e' wv', WAt ext H fp wv' e'.wait → EAt ext H fp (setAt ms j (.int .u32 k) (enV e' wv')) (put k e' xs)) ∧ EAt ext H fp (ms.eraseIdx j) (del k xs)) ∨
    (fnd k xs = none ∧ keyFind (.int .u32 k) ms 0 = some none ∧ del k xs = xs ∧ ∀ e' wv' n, WAt ext H fp wv' e'.wait → EAt ext H fp (ms ++ [⟨.int .u32 k, enV e' wv', n⟩]) (put k e' xs))
  | [], [], _ => .inr ⟨rfl, rfl, rfl, fun e' wv' n h => ⟨⟨rfl, wv', rfl, h⟩, trivial⟩⟩
  | m :: ms, a :: xs, h => by
    obtain ⟨⟨h1, wv, h2, h3⟩, h4⟩ := h
    by_cases hk : k = a.1
    · refine .inl ⟨a.2, 0, wv, by simp [fnd, hk], by simp [keyFind, h1, hk, h2], h3, fun e' wv' hw => ?_, ?_⟩
      · simp only [setAt, put, hk, if_true]
        exact ⟨⟨rfl, wv', rfl, hw⟩, h4⟩
      · simp only [List.eraseIdx_zero, List.tail_cons, del, hk, if_true]; exact h4
    · have hkf : keyFind (.int .u32 k) (m :: ms) 0 = (keyFind (.int .u32 k) ms 0).map (Option.map fun q => (q.1 + 1, q.2)) := by
        rw [← keyFind_shift _ _ 0 1]; simp [keyFind, h1, hk]
      rcases EAt.find (k := k) h4 with ⟨e, j, wv2, a1, a2, a3, a4, a5⟩ | ⟨a1, a2, a3, a4⟩
      · refine .inl ⟨e, j + 1, wv2, by simp [fnd, hk, a1], by rw [hkf, a2]; rfl, a3, fun e' wv' hw => ?_, ?_⟩
        · simp only [setAt, put, hk, if_false]; exact ⟨⟨h1, wv, h2, h3⟩, a4 e' wv' hw⟩
        · simp only [List.eraseIdx_cons_succ, del, hk, if_false]; exact ⟨⟨h1, wv, h2, h3⟩, a5⟩
      · refine .inr ⟨by simp [fnd, hk, a1], by rw [hkf, a2]; rfl, by simp [del, hk, a3], fun e' wv' n hw => ?_⟩
        simp only [put, hk, if_false, List.cons_append]
        exact ⟨⟨h1, wv, h2, h3⟩, a4 e' wv' n hw⟩
  | [], _ :: _, h => h.elim
  | _ :: _, [], h => h.elim

/-- When entries were born. -/
def Born (clock : Nat) (ms : List MapEntry) : Prop := (ms.map (·.born)).Nodup ∧ ∀ m ∈ ms, m.born < clock

theorem setAt_born : ∀ (ms : List MapEntry) (j : Nat) (k v : Value), (setAt ms j k v).map (·.born) = ms.map (·.born)
  | [], _, _, _ => rfl
  | m :: ms, 0, _, _ => rfl
  | m :: ms, j + 1, k, v => by simp [setAt, setAt_born ms j k v]

theorem Born.set {clock : Nat} {ms : List MapEntry} (h : Born clock ms) (j : Nat) (k v : Value) : Born clock (setAt ms j k v) := by
  refine ⟨by rw [setAt_born]; exact h.1, fun m hm => ?_⟩
  have : m.born ∈ (setAt ms j k v).map (·.born) := List.mem_map_of_mem hm
  rw [setAt_born] at this
  obtain ⟨m', h1, h2⟩ := List.mem_map.1 this
  rw [← h2]; exact h.2 m' h1

theorem Born.erase {clock : Nat} {ms : List MapEntry} (h : Born clock ms) (j : Nat) : Born clock (ms.eraseIdx j) :=
  ⟨List.Nodup.sublist ((List.eraseIdx_sublist ms j).map _) h.1, fun m hm => h.2 m ((List.eraseIdx_sublist ms j).subset hm)⟩

theorem Born.add {clock : Nat} {ms : List MapEntry} (h : Born clock ms) (k v : Value) : Born (clock + 1) (ms ++ [⟨k, v, clock⟩]) := by
  refine ⟨?_, fun m hm => ?_⟩
  · rw [List.map_append, List.nodup_append]
    refine ⟨h.1, by simp, ?_⟩
    intro a ha b hb
    simp at hb
    subst hb
    obtain ⟨m, h1, rfl⟩ := List.mem_map.1 ha
    have := h.2 m h1
    omega
  · rcases List.mem_append.1 hm with hm | hm
    · exact Nat.lt_succ_of_lt (h.2 m hm)
    · simp at hm; subst hm; exact Nat.lt_succ_self _

/-- A cache. -/
structure Ca where
  mac : Int
  ip : Int
  last : Int
  all : List (Int × En)
  lost : Int

/-- What is true of each neighbour. -/
structure EnOk (e : En) : Prop where
  mac : 0 ≤ e.mac ∧ e.mac < 281474976710655
  at_ : 0 ≤ e.at_ ∧ e.at_ ≤ 1099511627776
  tries : 0 ≤ e.tries ∧ e.tries ≤ 3
  wait : e.wait.length ≤ 4
  body : ∀ b ∈ e.wait, 1 ≤ b.length ∧ b.length ≤ 1500
  known : e.known = true → e.wait = []

theorem en0_ok : EnOk en0 := ⟨by simp [en0], by simp [en0], by simp [en0], by simp [en0], by simp [en0], by simp [en0]⟩

structure CaOk (S : Ca) : Prop where
  mac : 0 ≤ S.mac ∧ S.mac < 281474976710655
  ip : 0 ≤ S.ip ∧ S.ip < 4294967296
  last : 0 ≤ S.last ∧ S.last ≤ 1099511627776
  lost : 0 ≤ S.lost
  len : S.all.length ≤ 8
  keys : (S.all.map (·.1)).Nodup
  rng : ∀ a ∈ S.all, 0 ≤ a.1 ∧ a.1 < 4294967296
  ens : ∀ a ∈ S.all, EnOk a.2

theorem fnd_mem {k : Int} {e : En} : ∀ {l : List (Int × En)}, fnd k l = some e → (k, e) ∈ l
  | [], h => by cases h
  | a :: l, h => by
    simp only [fnd] at h
    split at h
    · rename_i hk; cases h; subst hk; exact List.mem_cons_self
    · exact List.mem_cons_of_mem _ (fnd_mem h)
theorem fnd_none {k : Int} : ∀ {l : List (Int × En)}, fnd k l = none ↔ k ∉ l.map (·.1)
  | [] => by simp [fnd]
  | a :: l => by
    simp only [fnd, List.map_cons, List.mem_cons, not_or]
    by_cases hk : k = a.1
    · simp [hk]
    · simp [hk, fnd_none (l := l)]
theorem mem_put {k : Int} {e : En} : ∀ {l : List (Int × En)} {a : Int × En}, a ∈ put k e l → a = (k, e) ∨ a ∈ l
  | [], a, h => by simp [put] at h; exact .inl h
  | b :: l, a, h => by
    simp only [put] at h
    split at h
    · rcases List.mem_cons.1 h with h | h
      · exact .inl h
      · exact .inr (List.mem_cons_of_mem _ h)
    · rcases List.mem_cons.1 h with h | h
      · subst h; exact .inr List.mem_cons_self
      · rcases mem_put h with h | h
        · exact .inl h
        · exact .inr (List.mem_cons_of_mem _ h)
theorem keys_put {k : Int} {e : En} : ∀ {l : List (Int × En)}, (put k e l).map (·.1) = if k ∈ l.map (·.1) then l.map (·.1) else l.map (·.1) ++ [k]
  | [] => by simp [put]
  | b :: l => by
    simp only [put]
    by_cases hk : k = b.1
    · simp [hk]
    · have := keys_put (k := k) (e := e) (l := l)
      simp only [hk, if_false, List.map_cons, this, List.mem_cons, false_or]
      split <;> simp
theorem del_sublist {k : Int} : ∀ {l : List (Int × En)}, (del k l).Sublist l
  | [] => .slnil
  | b :: l => by
    simp only [del]
    split
    · exact List.sublist_cons_self _ _
    · exact del_sublist.cons_cons _
theorem len_put {k : Int} {e : En} {l : List (Int × En)} : (put k e l).length = if (fnd k l).isSome then l.length else l.length + 1 := by
  have h := congrArg List.length (keys_put (k := k) (e := e) (l := l))
  rw [List.length_map] at h
  rw [h]
  cases hf : fnd k l with
  | none => simp [fnd_none.1 hf]
  | some x =>
    have : k ∈ l.map (·.1) := List.mem_map_of_mem (f := (·.1)) (fnd_mem hf)
    simp [this]

theorem CaOk.find {S : Ca} (h : CaOk S) {k : Int} {e : En} (hf : fnd k S.all = some e) : EnOk e := h.ens (k, e) (fnd_mem hf)

theorem CaOk.put {S : Ca} (h : CaOk S) {k : Int} {e : En} (hk : 0 ≤ k ∧ k < 4294967296) (he : EnOk e) (hl : (fnd k S.all).isSome ∨ S.all.length < 8) : CaOk { S with all := put k e S.all } := by
  refine ⟨h.mac, h.ip, h.last, h.lost, ?_, ?_, ?_, ?_⟩
  · show (Ev.put k e S.all).length ≤ 8
    rw [len_put]
    have := h.len
    split
    · exact this
    · rename_i hn; rcases hl with hl | hl
      · exact absurd hl hn
      · omega
  · show ((Ev.put k e S.all).map (·.1)).Nodup
    rw [keys_put]
    split
    · exact h.keys
    · rename_i hn
      rw [List.nodup_append]
      exact ⟨h.keys, by simp, fun a ha b hb => by simp at hb; subst hb; intro e; subst e; exact hn ha⟩
  · intro a ha
    rcases mem_put ha with rfl | ha
    · exact hk
    · exact h.rng a ha
  · intro a ha
    rcases mem_put ha with rfl | ha
    · exact he
    · exact h.ens a ha

theorem CaOk.del {S : Ca} (h : CaOk S) (k : Int) : CaOk { S with all := del k S.all } :=
  ⟨h.mac, h.ip, h.last, h.lost, Nat.le_trans del_sublist.length_le h.len, h.keys.sublist (del_sublist.map _), fun a ha => h.rng a (del_sublist.subset ha), fun a ha => h.ens a (del_sublist.subset ha)⟩

/-- A cache as it lies: c its own cells, mb its map, fp all its blocks. -/
structure CAt (ext : Nat → Nat → Option Value) (H : Heap) (fp : Nat → Prop) (c mb : Nat) (S : Ca) : Prop where
  cell : H.get c = some (.cells (cacheC S.mac S.ip S.last mb S.lost) 64)
  map : ∃ ms clock, H.get mb = some (.map ms clock) ∧ EAt ext H (fun b => fp b ∧ b ≠ c ∧ b ≠ mb) ms S.all ∧ Born clock ms
  clt : c < H.next
  mlt : mb < H.next
  ne : c ≠ mb
  fc : fp c
  fm : fp mb
  lt : ∀ b, fp b → b < H.next

theorem CAt.kp {fp S : Nat → Prop} {c mb : Nat} {A : Ca} {H' : Heap} (h : CAt ext H fp c mb A) (hk : Kp S H H') (hS : ∀ b, fp b → ¬ S b) : CAt ext H' fp c mb A := by
  obtain ⟨ms, clock, h1, h2, h3⟩ := h.map
  exact ⟨by rw [hk.get c h.clt (hS c h.fc), h.cell], ⟨ms, clock, by rw [hk.get mb h.mlt (hS mb h.fm), h1], h2.kp hk (fun b hb => hS b hb.1) (fun b hb => hb), h3⟩, Nat.lt_of_lt_of_le h.clt hk.le, Nat.lt_of_lt_of_le h.mlt hk.le, h.ne, h.fc, h.fm,
    fun b hb => Nat.lt_of_lt_of_le (h.lt b hb) hk.le⟩

/-- The cache's own numbers change. -/
theorem CAt.cells {fp : Nat → Prop} {c mb : Nat} {A : Ca} (h : CAt ext H fp c mb A) (last lost : Int) : CAt ext (H.set c (.cells (cacheC A.mac A.ip last mb lost) 64)) fp c mb { A with last := last, lost := lost } := by
  obtain ⟨ms, clock, h1, h2, h3⟩ := h.map
  have hk : Kp (fun b => b = c) H (H.set c (.cells (cacheC A.mac A.ip last mb lost) 64)) := Kp.set _ _ _ fun _ => rfl
  exact ⟨by simp, ⟨ms, clock, by rw [Heap.get_set_ne (Ne.symm h.ne), h1], h2.kp hk (fun b hb => hb.2.1) (fun b hb => hb), h3⟩, h.clt, h.mlt, h.ne, h.fc, h.fm, h.lt⟩

theorem CAt.cells' {fp : Nat → Prop} {c mb : Nat} {A : Ca} {H' : Heap} (h : CAt ext H fp c mb A) (hk : Kp (fun b => b = c) H H') {last lost : Int} (hg : H'.get c = some (.cells (cacheC A.mac A.ip last mb lost) 64)) : CAt ext H' fp c mb { A with last := last, lost := lost } := by
  obtain ⟨ms, clock, h1, h2, h3⟩ := h.map
  exact ⟨hg, ⟨ms, clock, by rw [hk.get mb h.mlt (fun e => h.ne e.symm), h1], h2.kp hk (fun b hb => hb.2.1) (fun b hb => hb), h3⟩, Nat.lt_of_lt_of_le h.clt hk.le, Nat.lt_of_lt_of_le h.mlt hk.le, h.ne, h.fc, h.fm,
    fun b hb => Nat.lt_of_lt_of_le (h.lt b hb) hk.le⟩

/-- The map changes. -/
theorem CAt.remap {fp : Nat → Prop} {c mb : Nat} {A : Ca} (h : CAt ext H fp c mb A) {ms : List MapEntry} {clock : Nat} {xs : List (Int × En)} (h2 : EAt ext H (fun b => fp b ∧ b ≠ c ∧ b ≠ mb) ms xs) (h3 : Born clock ms) :
    CAt ext (H.set mb (.map ms clock)) fp c mb { A with all := xs } := by
  have hk : Kp (fun b => b = mb) H (H.set mb (.map ms clock)) := Kp.set _ _ _ fun _ => rfl
  exact ⟨by rw [Heap.get_set_ne h.ne]; exact h.cell, ⟨ms, clock, by simp, h2.kp hk (fun b hb => hb.2.2) (fun b hb => hb), h3⟩, h.clt, h.mlt, h.ne, h.fc, h.fm, h.lt⟩

/-- More blocks belong to it. -/
theorem CAt.more {fp fp' : Nat → Prop} {c mb : Nat} {A : Ca} (h : CAt ext H fp c mb A) (hf : ∀ b, fp b → fp' b) (hl : ∀ b, fp' b → b < H.next) : CAt ext H fp' c mb A := by
  obtain ⟨ms, clock, h1, h2, h3⟩ := h.map
  exact ⟨h.cell, ⟨ms, clock, h1, h2.kp (.refl (fun _ => False) H) (fun _ _ => id) (fun b hb => ⟨hf b hb.1, hb.2⟩), h3⟩, h.clt, h.mlt, h.ne, hf _ h.fc, hf _ h.fm, hl⟩

theorem look62 {ms : List MapEntry} {clock mb : Nat} {k : Int} {ok : Bool} (hg : H.get mb = some (.map ms clock)) : lookup (Z ext) H 62 (.map (some mb)) (.int .u32 k) ok = (match keyFind (.int .u32 k) ms 0 with
    | none => none
    | some (some (_, v)) => some (cond ok (.tuple #[v, .bool true]) v)
    | some none => some (cond ok (.tuple #[enV en0 (.slice none 0 0), .bool false]) (enV en0 (.slice none 0 0)))) := by
  simp only [lookup, tt_62, Tab.i62, intKey, tt_22, Tab.i22, cond_true, entries, hg, tt_67, Option.bind_some, tiVal]
  rfl

/-- Looking a neighbour up. -/
theorem CAt.look {fp : Nat → Prop} {c mb : Nat} {A : Ca} (h : CAt ext H fp c mb A) (k : Int) :
    ∃ wv, WAt ext H (fun b => fp b ∧ b ≠ c ∧ b ≠ mb) wv ((fnd k A.all).getD en0).wait ∧ lookup (Z ext) H 62 (.map (some mb)) (.int .u32 k) true = some (.tuple #[enV ((fnd k A.all).getD en0) wv, .bool (fnd k A.all).isSome]) ∧
      lookup (Z ext) H 62 (.map (some mb)) (.int .u32 k) false = some (enV ((fnd k A.all).getD en0) wv) := by
  obtain ⟨ms, clock, h1, h2, h3⟩ := h.map
  rcases h2.find (k := k) with ⟨e, j, wv, a1, a2, a3, -, -⟩ | ⟨a1, a2, -, -⟩
  · exact ⟨wv, by rw [a1]; exact a3, by rw [look62 h1, a2, a1]; rfl, by rw [look62 h1, a2, a1]; rfl⟩
  · exact ⟨.slice none 0 0, by rw [a1]; exact .nil _, by rw [look62 h1, a2, a1]; rfl, by rw [look62 h1, a2, a1]; rfl⟩

/-- A neighbour is laid into the map. -/
theorem CAt.update {fp : Nat → Prop} {c mb : Nat} {A : Ca} (h : CAt ext H fp c mb A) {k : Int} {e : En} {wv : Value} (hw : WAt ext H (fun b => fp b ∧ b ≠ c ∧ b ≠ mb) wv e.wait) :
    ∃ H', mapUpdate (Z ext) H 62 (.map (some mb)) (.int .u32 k) (enV e wv) = some H' ∧ CAt ext H' fp c mb { A with all := put k e A.all } ∧ Kp (fun b => b = mb) H H' ∧ H'.next = H.next := by
  obtain ⟨ms, clock, h1, h2, h3⟩ := h.map
  have hu : mapUpdate (Z ext) H 62 (.map (some mb)) (.int .u32 k) (enV e wv) = (match keyFind (.int .u32 k) ms 0 with
      | none => none
      | some (some (j, _)) => some (H.set mb (.map (setAt ms j (.int .u32 k) (enV e wv)) clock))
      | some none => some (H.set mb (.map (ms ++ [{ key := .int .u32 k, val := enV e wv, born := clock }]) (clock + 1)))) := by
    simp only [mapUpdate, tt_62, Tab.i62, intKey, tt_22, Tab.i22, cond_true, h1]
    rfl
  rcases h2.find (k := k) with ⟨e0, j, wv0, a1, a2, a3, a4, -⟩ | ⟨a1, a2, -, a4⟩
  · exact ⟨_, by rw [hu, a2], h.remap (a4 e wv hw) (h3.set _ _ _), Kp.set _ _ _ fun _ => rfl, rfl⟩
  · exact ⟨_, by rw [hu, a2], h.remap (a4 e wv clock hw) (h3.add _ _), Kp.set _ _ _ fun _ => rfl, rfl⟩

/-- A neighbour is forgotten. -/
theorem CAt.delete {fp : Nat → Prop} {c mb : Nat} {A : Ca} (h : CAt ext H fp c mb A) (k : Int) :
    ∃ H', builtin (Z ext) H .delete [62, 22] [.map (some mb), .int .u32 k] = some (.tuple #[], H') ∧ CAt ext H' fp c mb { A with all := del k A.all } ∧ Kp (fun b => b = mb) H H' ∧ H'.next = H.next := by
  obtain ⟨ms, clock, h1, h2, h3⟩ := h.map
  have hu : builtin (Z ext) H .delete [62, 22] [.map (some mb), .int .u32 k] = (match (match keyFind (.int .u32 k) ms 0 with
      | none => none
      | some (some (j, _)) => some (H.set mb (.map (ms.eraseIdx j) clock))
      | some none => some H) with | some H' => some (.tuple #[], H') | none => none) := by
    simp only [builtin, Ev.delete, tt_62, Tab.i62, intKey, tt_22, Tab.i22, cond_true, h1]
    rfl
  rcases h2.find (k := k) with ⟨e0, j, wv0, a1, a2, a3, -, a5⟩ | ⟨a1, a2, a3, -⟩
  · exact ⟨_, by rw [hu, a2], h.remap a5 (h3.erase _), Kp.set _ _ _ fun _ => rfl, rfl⟩
  · exact ⟨H, by rw [hu, a2], by rw [a3]; exact h, .refl _ _, rfl⟩

/-! the keys -/
theorem lit_u32 {n : Int} (h : 0 ≤ n ∧ n < 4294967296) : (Lit.int .u32 n).wf = true := by
  have e1 : IntKind.min .u32 = 0 := by decide
  have e2 : IntKind.max .u32 = 4294967295 := by decide
  simp only [Lit.wf, e1, e2, Bool.and_eq_true, decide_eq_true_eq]
  omega

theorem EAt.keysU {fp : Nat → Prop} {clock : Nat} : ∀ {ms : List MapEntry} {xs : List (Int × En)}, EAt ext H fp ms xs → Born clock ms → (xs.map (·.1)).Nodup → (∀ a ∈ xs, 0 ≤ a.1 ∧ a.1 < 4294967296) → Proofs.Ytglkgmomnbdkoaa.keysU clock ms = some (xs.map (·.1))
  | [], [], _, _, _, _ => rfl
  | m :: ms, a :: xs, h, hb, hn, hr => by
    obtain ⟨⟨h1, wv, h2, h3⟩, h4⟩ := h
    have hb' : Born clock ms := ⟨(List.nodup_cons.1 hb.1).2, fun m hm => hb.2 m (List.mem_cons_of_mem _ hm)⟩
    have ih := EAt.keysU h4 hb' (List.nodup_cons.1 hn).2 (fun x hx => hr x (List.mem_cons_of_mem _ hx))
    have e1 : ∀ (l : List Int) (n : Int), n ∉ l → notIn n l = true := by
      intro l n; induction l with
      | nil => intro _; rfl
      | cons x l ih => intro hx; simp only [List.mem_cons, not_or] at hx; simp [notIn, hx.1, ih hx.2]
    have e2 : ∀ (l : List MapEntry) (n : Nat), n ∉ l.map (·.born) → notBorn n l = true := by
      intro l n; induction l with
      | nil => intro _; rfl
      | cons x l ih =>
        intro hx
        simp only [List.map_cons, List.mem_cons, not_or] at hx
        have : Nat.beq n x.born = false := by
          cases hq : Nat.beq n x.born with
          | false => rfl
          | true => exact absurd (Nat.eq_of_beq_eq_true hq) hx.1
        simp [notBorn, this, ih hx.2]
    have e3 : Nat.blt m.born clock = true := Nat.ble_eq_true_of_le (hb.2 m List.mem_cons_self)
    simp only [Proofs.Ytglkgmomnbdkoaa.keysU, ih, h1, keyU, lit_u32 (hr a List.mem_cons_self), cond_true, e1 _ _ (List.nodup_cons.1 hn).1, e2 _ _ (List.nodup_cons.1 hb.1).1, e3, Bool.and_self, List.map_cons]
  | [], _ :: _, h, _, _, _ => h.elim
  | _ :: _, [], h, _, _, _ => h.elim

/-- The addresses of all neighbours, rising. -/
theorem c30 {fp : Nat → Prop} {c mb : Nat} {A : Ca} (h : CAt ext H fp c mb A) (ho : CaOk A) :
    C (Z ext) 30 [.pointer (some ⟨c, 0, none⟩)] H fun r H' => Own H' r 1 A.all.length ((sortL (A.all.map (·.1))).map (.int .u32)) 22 ∧ (∀ b, ob r = some b → H.next ≤ b) ∧ Ext H H' := by
  refine C_all fun Q hQ => ?_
  apply w30_ok rfl
  simp only [w30, nilCheck_ptr, Ok_some, FA_ptr, Ld1_ptr, rd1_own h.cell, cacheC, getN_zero, getN_succ, Nat.zero_add]
  have h41 : C (Z ext) 41 [.map (some mb)] H fun r H' => r = .func (.func 54) #[] #[.pointer (some ⟨H.next, 0, none⟩)] ∧ H' = H.alloc (.cells [.map (some mb)] 62) := by
    apply w41_ok rfl
    simp only [w41, Al_eq, cellsOf_map, and_self]
  refine C_mono h41 ?_
  rintro _ _ ⟨rfl, rfl⟩
  obtain ⟨ms, clock, h1, h2, h3⟩ := h.map
  have hk := h2.keysU h3 ho.keys ho.rng
  have hlen : (A.all.map (·.1)).length = A.all.length := by simp
  have h12 : Nat.ble (A.all.map (·.1)).length 12 = true := Nat.ble_eq_true_of_le (by have := ho.len; omega)
  have hs : sortedS [.func (.func 54) #[] #[.pointer (some ⟨H.next, 0, none⟩)]] (H.alloc (.cells [.map (some mb)] 62)) = sortedK (A.all.map (·.1)) (H.alloc (.cells [.map (some mb)] 62)) := by
    have hm : (H.alloc (.cells [.map (some mb)] 62)).get mb = some (.map ms clock) := by rw [Heap.get_alloc_ne (by have := h.mlt; omega), h1]
    simp only [sortedS]
    have e0 : Nat.beq 54 54 = true := rfl
    simp only [e0, Heap.get_alloc_self, getN_zero, hm, hk, h12, cond_true]
  have hE : Ext H (H.alloc (.cells [.map (some mb)] 62)) := .alloc _ _ _
  cases hkk : A.all.map (·.1) with
  | nil =>
    rw [hkk] at hs
    refine C_spec (s := sortedS) rfl hs ?_
    have hl0 : A.all.length = 0 := by rw [← hlen, hkk]; rfl
    refine hQ _ _ ⟨?_, by simp [ob], hE⟩
    rw [hl0, hkk]
    exact .nil _ _ _ _
  | cons x l =>
    rw [hkk] at hs
    refine C_spec (s := sortedS) rfl hs ?_
    have hsl : (sortL (x :: l)).length = A.all.length := by rw [(sortL_perm _).length_eq, ← hkk, hlen]
    refine hQ _ _ ⟨⟨by rw [List.length_map, hkk, hsl]; omega, .inr ⟨_, by rw [← hkk, hlen], by simp, by rw [hkk]; simp⟩⟩, ?_, hE.alloc' _⟩
    intro b hb
    simp [ob] at hb
    omega

end Ev
end Go.Proofs.Ytglkgmomnbdkoaa
