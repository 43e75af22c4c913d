/- Every body is told in a frame once, or waits, or is lost: what the calls do to these counts (plain). -/
import Derived.Test.YtglkgmomnbdkoaaBnd1
namespace Go.Proofs.Ytglkgmomnbdkoaa
namespace Ev

/-- A frame from a card: does it carry a body? -/
structure IsF (mac : Int) (f : List Int) (body : Bool) : Prop where
  ex : ∃ to kind bs, f = frameB to mac kind bs ∧ (0 ≤ to ∧ to < 281474976710656) ∧ (1536 ≤ kind ∧ kind < 65536) ∧ Byt bs ∧ bs.length ≤ 1500 ∧ body = decide (kind = 2048)

/-- Frames from a card, n of them with a body. -/
def FsOk (mac : Int) : List (List Int) → Int → Prop
  | [], n => n = 0
  | f :: fs, n => ∃ b m, IsF mac f b ∧ FsOk mac fs m ∧ n = m + (if b = true then 1 else 0)

theorem FsOk.append {mac : Int} : ∀ {fs gs : List (List Int)} {n m : Int}, FsOk mac fs n → FsOk mac gs m → FsOk mac (fs ++ gs) (n + m)
  | [], gs, n, m, h, h' => by simp only [FsOk] at h; subst h; simpa using h'
  | f :: fs, gs, n, m, h, h' => by
    obtain ⟨b, k, h1, h2, rfl⟩ := h
    exact ⟨b, k + m, h1, FsOk.append h2 h', by omega⟩

theorem FsOk.get {mac : Int} : ∀ {fs : List (List Int)} {n : Int}, FsOk mac fs n → ∀ i, i ≤ fs.length → ∃ m, FsOk mac (fs.take i) m ∧ 0 ≤ m ∧ m ≤ i
  | [], n, h, i, hi => ⟨0, by simp [FsOk], by omega, by omega⟩
  | f :: fs, n, h, 0, hi => ⟨0, rfl, by omega, by omega⟩
  | f :: fs, n, h, i + 1, hi => by
    obtain ⟨b, k, h1, h2, rfl⟩ := h
    obtain ⟨m, m1, m2, m3⟩ := FsOk.get h2 i (by simpa using hi)
    refine ⟨m + (if b = true then 1 else 0), ⟨b, m, h1, m1, rfl⟩, ?_, ?_⟩ <;> split <;> push_cast <;> omega

theorem body_is {mac to : Int} {bs : List Int} (ht : 0 ≤ to ∧ to < 281474976710656) (hB : Byt bs) (hl : bs.length ≤ 1500) : IsF mac (frameB to mac 2048 bs) true := ⟨⟨to, 2048, bs, rfl, ht, by omega, hB, hl, by simp⟩⟩
theorem quest_is {mac to o ip m i : Int} (ht : 0 ≤ to ∧ to < 281474976710656) : IsF mac (frameB to mac 2054 (arpB o mac ip m i)) false := ⟨⟨to, 2054, _, rfl, ht, by omega, arpB_byt _ _ _ _ _, by rw [arpB_len]; omega, by simp⟩⟩
theorem FsOk.one {mac : Int} {f : List Int} {b : Bool} (h : IsF mac f b) : FsOk mac [f] (if b = true then 1 else 0) := ⟨b, 0, h, rfl, by omega⟩

/-- How many bodies wait. -/
def wsum (l : List (Int × En)) : Int := (l.map fun a => (a.2.wait.length : Int)).sum

theorem wsum_put {k : Int} {e : En} : ∀ {l : List (Int × En)}, wsum (put k e l) = wsum l - ((fnd k l).getD en0).wait.length + e.wait.length
  | [] => by simp [wsum, put, fnd, en0]
  | a :: l => by
    by_cases hk : k = a.1
    · simp [wsum, put, fnd, hk]; omega
    · have := wsum_put (k := k) (e := e) (l := l)
      simp only [wsum] at this
      simp [wsum, put, fnd, hk, this]; omega

theorem wsum_del {k : Int} : ∀ {l : List (Int × En)}, wsum (del k l) = wsum l - ((fnd k l).getD en0).wait.length
  | [] => by simp [wsum, del, fnd, en0]
  | a :: l => by
    by_cases hk : k = a.1
    · simp [wsum, del, fnd, hk]; omega
    · have := wsum_del (k := k) (l := l)
      simp only [wsum] at this
      simp [wsum, del, fnd, hk, this]; omega

theorem oldest_known (l : List (Int × En)) : (oldest l).2 = true → ((fnd (oldest l).1 l).getD en0).known = true := by
  unfold oldest
  have : ∀ (ks : List Int) (s : Int × Bool), (s.2 = true → ((fnd s.1 l).getD en0).known = true) → ((ks.foldl (oldF l) s).2 = true → ((fnd (ks.foldl (oldF l) s).1 l).getD en0).known = true) := by
    intro ks
    induction ks with
    | nil => intro s hs; exact hs
    | cons k ks ih =>
      intro s hs
      refine ih _ ?_
      unfold oldF
      split
      · rename_i hc; exact fun _ => hc.1
      · exact hs
  exact this _ _ (by simp)

theorem wsum_room {S : Ca} (h : CaOk S) : wsum (roomP S).2.all = wsum S.all := by
  unfold roomP
  split
  · rfl
  · split
    · rename_i ho
      show wsum (del _ _) = _
      rw [wsum_del, (h.findD _).known (oldest_known _ ho)]; simp
    · rfl

theorem room_none {S : Ca} {k : Int} (h : fnd k S.all = none) : fnd k (roomP S).2.all = none := by
  unfold roomP
  split
  · exact h
  · split
    · show fnd k (del _ _) = none
      rw [fnd_none] at h ⊢
      exact fun hm => h ((del_sublist.map _).subset hm)
    · exact h

/-- What waits and what is lost. -/
def held (S : Ca) : Int := wsum S.all + S.lost

theorem bgn_held (S : Ca) (now : Int) : held (bgn S now).2 = held S := by
  obtain ⟨h1, -, -, h4⟩ := bgn_lost S now
  simp only [held, h1, h4]

theorem sendB_counts {S : Ca} (h : CaOk S) {to : Int} {bs : List Int} (hB : Byt bs) (now : Int) : ∃ n, FsOk S.mac (sendB S to bs now).2.1 n ∧ n + held (sendB S to bs now).1 = held S + (if (sendB S to bs now).2.2 = 0 ∨ (sendB S to bs now).2.2 = 10 then 1 else 0) := by
  unfold sendB
  split
  · exact ⟨0, rfl, by simp⟩
  · rename_i hb
    split
    · have hm := (h.findD to).mac
      exact ⟨_, FsOk.one (body_is (by omega) hB (by omega)), by simp; omega⟩
    · rename_i hk
      split
      · exact ⟨0, rfl, by simp [held]; omega⟩
      · rename_i h4
        split
        · rename_i e he
          refine ⟨0, rfl, ?_⟩
          simp only [held, wsum_put, he, Option.getD_some]
          simp
          omega
        · rename_i he
          split
          · rename_i hr
            refine ⟨_, FsOk.one (quest_is (by omega)), ?_⟩
            simp only [held, wsum_put, room_none he, Option.getD_none, wsum_room h, (roomP_mac S).2.2.1]
            simp [en0]
            omega
          · refine ⟨0, rfl, ?_⟩
            simp only [held, wsum_room h, (roomP_mac S).2.2.1]
            simp
            omega

theorem send_counts {S : Ca} (h : CaOk S) {to : Int} {bs : List Int} (hB : Byt bs) (now : Int) : ∃ n, FsOk S.mac (send S to bs now).2.1 n ∧ n + held (send S to bs now).1 = held S + (if (send S to bs now).2.2 = 0 ∨ (send S to bs now).2.2 = 10 then 1 else 0) := by
  unfold send
  have hb := bgn_kept h now
  split
  · rename_i he
    refine ⟨0, rfl, ?_⟩
    have h2 : (bgn S now).1 = 2 ∨ (bgn S now).1 = 18 := by
      unfold bgn at he ⊢
      split
      · exact .inl rfl
      · split
        · exact .inr rfl
        · rename_i h1 h2; rw [if_neg h1, if_neg h2] at he; simp at he
    simp only [bgn_held]
    rw [if_neg (by omega)]
    omega
  · obtain ⟨n, h1, h2⟩ := sendB_counts hb.ok (to := to) hB now
    rw [hb.mac, bgn_held] at *
    exact ⟨n, h1, h2⟩

theorem FsOk.map {mac fm : Int} (hf : 0 ≤ fm ∧ fm < 281474976710656) : ∀ {ws : List (List Int)}, (∀ b ∈ ws, Byt b ∧ b.length ≤ 1500) → FsOk mac (ws.map (frameB fm mac 2048)) ws.length
  | [], _ => rfl
  | w :: ws, h => ⟨true, _, body_is hf (h w List.mem_cons_self).1 (h w List.mem_cons_self).2, FsOk.map hf (fun b hb => h b (List.mem_cons_of_mem _ hb)), by simp⟩

/-- All that waits is bytes. -/
def WB (S : Ca) : Prop := ∀ a ∈ S.all, ∀ b ∈ a.2.wait, Byt b

theorem WB.fnd {S : Ca} (h : WB S) {k : Int} {e : En} (he : Ev.fnd k S.all = some e) : ∀ b ∈ e.wait, Byt b := h (k, e) (fnd_mem he)

theorem takeL_counts {S : Ca} (h : CaOk S) (hw : WB S) {a : Ar} (ha : ArOk a) (hfm : a.fm < 281474976710655) (now : Int) : ∃ n, FsOk S.mac (takeL S a now).2 n ∧ n + held (takeL S a now).1 = held S := by
  unfold takeL
  split
  · rename_i e he
    refine ⟨_, FsOk.map ⟨ha.fm.1, by omega⟩ fun b hb => ⟨hw.fnd he b hb, ((h.find he).body b hb).2⟩, ?_⟩
    simp only [held, learn, wsum_put, he, Option.getD_some]
    simp
    omega
  · rename_i he
    split
    · split
      · refine ⟨0, rfl, ?_⟩
        simp only [held, learn, wsum_put, room_none he, Option.getD_none, wsum_room h, (roomP_mac S).2.2.1]
        simp [en0]
      · refine ⟨0, rfl, ?_⟩
        simp only [held, wsum_room h, (roomP_mac S).2.2.1]
        omega
    · exact ⟨0, rfl, by simp only; omega⟩

theorem take_counts {S : Ca} (h : CaOk S) (hw : WB S) {a : Ar} (ha : ArOk a) (now : Int) : ∃ n, FsOk S.mac (take S a now).2.1 n ∧ n + held (take S a now).1 = held S := by
  unfold take
  have hb := bgn_kept h now
  split
  · exact ⟨0, rfl, by simp only [bgn_held]; omega⟩
  · unfold takeB
    split
    · exact ⟨0, rfl, by simp only [bgn_held]; omega⟩
    · have hw' : WB (bgn S now).2 := by intro x hx; rw [(bgn_lost S now).2.2.2] at hx; exact hw x hx
      obtain ⟨n, h1, h2⟩ := takeL_counts hb.ok hw' ha (by omega) now
      rw [bgn_held] at h2
      rw [hb.mac] at h1
      refine ⟨n + 0, FsOk.append h1 ?_, by simp only; omega⟩
      split
      · rw [hb.mac]
        exact FsOk.one (quest_is (by have := ha.fm; omega))
      · rfl

theorem tickF_counts {s : Ca × List (List Int)} {now k : Int} {mac : Int} (hm : s.1.mac = mac) (hf : FsOk mac s.2 0) : FsOk mac (tickF now s k).2 0 ∧ held (tickF now s k).1 = held s.1 ∧ (tickF now s k).1.mac = mac := by
  unfold tickF
  split
  · refine ⟨hf, ?_, hm⟩
    simp only [held, wsum_del]
    omega
  · split
    · refine ⟨FsOk.append hf (show FsOk mac [frameB 281474976710655 s.1.mac 2054 (arpB 1 s.1.mac s.1.ip 0 k)] 0 by rw [hm]; exact FsOk.one (quest_is (by omega))), ?_, hm⟩
      simp only [held, wsum_put]
      omega
    · exact ⟨hf, rfl, hm⟩

theorem tick_counts {S : Ca} (now : Int) : FsOk S.mac (tick S now).2.1 0 ∧ held (tick S now).1 = held S := by
  unfold tick
  split
  · exact ⟨rfl, bgn_held S now⟩
  · have : ∀ (ks : List Int) (s : Ca × List (List Int)), s.1.mac = S.mac → FsOk S.mac s.2 0 → FsOk S.mac (ks.foldl (tickF now) s).2 0 ∧ held (ks.foldl (tickF now) s).1 = held s.1 := by
      intro ks
      induction ks with
      | nil => intro s _ h; exact ⟨h, rfl⟩
      | cons k ks ih =>
        intro s hm h
        obtain ⟨h1, h2, h3⟩ := tickF_counts (now := now) (k := k) hm h
        obtain ⟨h4, h5⟩ := ih _ h3 h1
        exact ⟨h4, h5.trans h2⟩
    obtain ⟨h1, h2⟩ := this (sortL ((bgn S now).2.all.map (·.1))) ((bgn S now).2, []) (bgn_lost S now).2.1 rfl
    exact ⟨h1, h2.trans (bgn_held S now)⟩

/-! a table's sum -/
theorem fnd_of_mem {k : Int} {e : En} : ∀ {l : List (Int × En)}, (l.map (·.1)).Nodup → (k, e) ∈ l → fnd k l = some e
  | [], _, h => by cases h
  | a :: l, hn, h => by
    simp only [List.map_cons, List.nodup_cons] at hn
    rcases List.mem_cons.1 h with h | h
    · subst h; simp [fnd]
    · have : k ≠ a.1 := fun e' => hn.1 (e' ▸ List.mem_map_of_mem (f := (·.1)) h)
      simp only [fnd, if_neg this]
      exact fnd_of_mem hn.2 h

theorem tableP_perm {S : Ca} (h : CaOk S) : (tableP S).Perm S.all := by
  have h1 : ((S.all.map (·.1)).map fun k => (k, (fnd k S.all).getD en0)) = S.all := by
    rw [List.map_map]
    refine (List.map_congr_left fun a ha => ?_).trans (List.map_id _)
    simp only [Function.comp, fnd_of_mem h.keys (show (a.1, a.2) ∈ S.all from ha), Option.getD_some, id]
  have h2 : (tableP S).Perm ((S.all.map (·.1)).map fun k => (k, (fnd k S.all).getD en0)) := (sortL_perm _).map _
  rwa [h1] at h2

theorem perm_sum {l k : List Int} (h : l.Perm k) : l.sum = k.sum := by
  induction h with
  | nil => rfl
  | cons x _ ih => simp [ih]
  | swap x y l => simp; omega
  | trans _ _ h1 h2 => exact h1.trans h2

theorem tableP_sum {S : Ca} (h : CaOk S) : wsum (tableP S) = wsum S.all := by
  unfold wsum
  exact perm_sum ((tableP_perm h).map _)

theorem wsum_take {l : List (Int × En)} {i : Nat} {a : Int × En} (h : l[i]? = some a) : wsum (l.take (i + 1)) = wsum (l.take i) + a.2.wait.length := by
  rw [List.take_add_one, h]
  simp [wsum]

theorem wsum_le {S : Ca} (h : CaOk S) (i : Nat) : 0 ≤ wsum ((tableP S).take i) ∧ wsum ((tableP S).take i) ≤ 4 * i := by
  induction i with
  | zero => simp [wsum]
  | succ i ih =>
    cases hx : (tableP S)[i]? with
    | none =>
      rw [List.take_add_one, hx]
      simp
      omega
    | some a =>
      rw [wsum_take hx]
      have := (h.findD a.1).wait
      rw [← tableP_get hx] at this
      omega

end Ev
end Go.Proofs.Ytglkgmomnbdkoaa
