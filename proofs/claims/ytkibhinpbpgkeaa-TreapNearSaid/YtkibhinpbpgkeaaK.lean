/- The walk of Move. -/
import Derived.Test.YtkibhinpbpgkeaaJ
namespace Go.Proofs.Ytkibhinpbpgkeaa
open Go.RowKit Go.ChangeMaps

/-- A mark put into a tree that the set has come to. -/
theorem put_fin {W w2 w3 w4 : World} {s b g : Nat} {t u : TR} {m : Mk} {q : Value} (h : SetIn W s b t) (hu : ∀ k ∈ u.blocks, k ∈ t.blocks) (hnu : u.blocks.Nodup) (hsu : Srt u) (hhu : Hp u) (hiu : Ids u.list) (hid : ∀ x ∈ u.list, x.id ≠ m.id)
    (ht : w2.heap[s]? = some (.cells #[q, .map (some b)] 56 (0, 0))) (hm : MapIs w2 b (m :: u.list)) (h2 : Chg (s :: b :: t.blocks) W w2)
    (h3 : Chg u.blocks w2 w3) (hg : w2.heap.size ≤ g) (hx : InW w3 (putT g u m)) (h4 : w4 = w3.setCell ⟨s, 0, none⟩ (.pointer (putT g u m).root)) : Left W s b t (ins u.list m) w4 := by
  subst h4
  have hnd := h.nd
  simp only [List.nodup_cons, List.mem_cons, not_or] at hnd
  obtain ⟨⟨n1, n2⟩, n3, n4⟩ := hnd
  have hs : s < W.heap.size := h.lt s (by simp)
  have hb : b < W.heap.size := h.lt b (by simp)
  have z2 := h2.size
  have z3 := h3.size
  have hbl : ∀ k ∈ (putT g u m).blocks, k = g ∨ k ∈ t.blocks := fun k hk => (List.mem_cons.1 ((put_blocks g u m).mem_iff.1 hk)).imp id (hu k)
  have hl := put_list g u m hsu hid
  refine ⟨putT g u m, ?_, hl, ?_, ?_⟩
  · refine ⟨?_, ?_, ?_, ?_, ?_, put_heap g u m hsu hhu hid, ?_⟩
    · exact top_set ((h3.block s (by omega) fun k => n2 (hu s k)).trans ht)
    · have e3 : w3.heap[b]? = w2.heap[b]? := h3.block b (by omega) fun k => n3 (hu b k)
      have e4 : (w3.setCell ⟨s, 0, none⟩ (.pointer (putT g u m).root)).heap[b]? = w3.heap[b]? := Below.heap_setCell _ _ _ _ (by simpa using Ne.symm n1)
      refine (hm.keep (e4.trans e3)).perm ?_
      rw [hl]
      exact (ins_perm u.list m).symm
    · exact hx.setCell (fun hk => (hbl s hk).elim (fun e => by omega) n2) _ _
    · refine List.nodup_cons.2 ⟨?_, List.nodup_cons.2 ⟨?_, ?_⟩⟩
      · simp only [List.mem_cons, not_or]
        exact ⟨n1, fun hk => (hbl s hk).elim (fun e => by omega) n2⟩
      · exact fun hk => (hbl b hk).elim (fun e => by omega) n3
      · exact ((put_blocks g u m).nodup_iff).2 (List.nodup_cons.2 ⟨fun hk => by have := h.tree.lt g (hu g hk); omega, hnu⟩)
    · show List.Pairwise _ _
      rw [hl]
      exact ins_sorted u.list m hsu hid
    · rw [hl]
      exact ids_perm (ins_perm u.list m) (List.pairwise_cons.2 ⟨fun x hx => Ne.symm (hid x hx), hiu⟩)
  · intro k hk
    rcases hbl k hk with e | e
    · right; omega
    · exact .inl e
  · refine Chg.setCell ?_ (.inl (by simp)) _
    exact h2.trans (h3.mono fun k hk _ => by simp [hu k hk])

theorem mov_none (W : World) (s b : Nat) (t : TR) (i f o : Int) (h : SetIn W s b t) (hn : hasB t.list i = false) : Calls Try.prog 41 #[.pointer (some ⟨s, 0, none⟩), .int .i64 i, .int .i64 f, .int .i64 o] W fun e w' => e = .returned (.int .i64 4) ∧ Below W.heap.size W w' := by
  have Hv : Hid (hasB t.list i = false) := hn
  go_enter Try.func41, Try.ntmps41
  go_wp2_with (go_at_call 26; (with_reducible refine (has_v _ s b t i false Hv h).mono ?_); rintro e w1 ⟨rfl, hb1⟩)
  go_ret
  exact ⟨rfl, hb1⟩
theorem mov_bad (W : World) (s b : Nat) (t : TR) (i f o : Int) (h : SetIn W s b t) (hn : hasB t.list i = true) (hf : mayB f o = false) : Calls Try.prog 41 #[.pointer (some ⟨s, 0, none⟩), .int .i64 i, .int .i64 f, .int .i64 o] W fun e w' => e = .returned (.int .i64 2) ∧ Below W.heap.size W w' := by
  have Hv : Hid (hasB t.list i = true) := hn
  have Hv2 : Hid (mayB f o = false) := hf
  clear hf
  go_enter Try.func41, Try.ntmps41
  go_wp2_with (first | (go_at_call 26; (with_reducible refine (has_v _ s b t i true Hv h).mono ?_); rintro e w1 ⟨rfl, hb1⟩) | (go_at_call 25; (with_reducible refine (may_v f o false Hv2 _).mono ?_); rintro e w' ⟨rfl, rfl⟩))
  go_ret
  exact ⟨rfl, hb1⟩

set_option maxHeartbeats 2000000 in
theorem mov_yes (W : World) (s b : Nat) (t : TR) (m : Mk) (f o : Int) (h : SetIn W s b t) (hm : m ∈ t.list) (hf : mayB f o = true) : Calls Try.prog 41 #[.pointer (some ⟨s, 0, none⟩), .int .i64 m.id, .int .i64 f, .int .i64 o] W fun e w' => e = .returned (.int .i64 0) ∧ Left W s b t (ins (del t.list m.id) ⟨m.id, f, o, m.pr⟩) w' := by
  have hs : s < W.heap.size := h.lt s (by simp)
  obtain ⟨c0, c1⟩ := h.cells
  have hnd := h.nd
  simp only [List.nodup_cons, List.mem_cons, not_or] at hnd
  obtain ⟨⟨n1, n2⟩, n3, n4⟩ := hnd
  have HH := Lib.hid h
  have HM := Lib.hid hm
  have Hv : Hid (hasB t.list m.id = true) := by simp [Hid, hasB]; exact ⟨m, hm, rfl⟩
  have Hv2 : Hid (mayB f o = true) := hf
  have HL : Hid (∀ w', Below W.heap.size W w' → (Instr.lookup 53 (.map (some b)) (.int .i64 m.id) false).run Try.prog w' = .ok (.agg #[.int .i64 m.id, .int .i64 m.fr, .int .i64 m.to, .int .i64 m.pr]) w') := by
    intro w' hb'
    exact ((HH.out.below hb' HH.out.lt).map.hit HH.out.ids HM.out).2
  clear h hm hf
  go_enter Try.func41, Try.ntmps41
  go_wp2_with (first | (go_at_call 26; (with_reducible refine (has_v _ s b t m.id true Hv HH.out).mono ?_); rintro e w1 ⟨rfl, hb1⟩; have hz := hb1.size; have d0 : w1.cell? ⟨s, 0, none⟩ = some (.pointer t.root) := (hb1.cell (p := ⟨s, 0, none⟩) hs).trans c0; have d1 : w1.cell? ⟨s, 1, none⟩ = some (.map (some b)) := (hb1.cell (p := ⟨s, 1, none⟩) hs).trans c1; have hlook := HL.out w1 hb1) | (go_at_call 25; (with_reducible refine (may_v f o true Hv2 _).mono ?_); rintro e w' ⟨rfl, rfl⟩))
  have HB1 := Lib.hid hb1
  have hs1 : s < w1.heap.size := by omega
  obtain ⟨X, hX⟩ : ∃ X, X = w1.alloc (.cells #[.int .i64 m.id, .int .i64 m.fr, .int .i64 m.to, .int .i64 m.pr] 30 (0, 0)) := ⟨_, rfl⟩
  rw [← hX]
  have hXs : X.heap.size = w1.heap.size + 1 := by rw [hX]; simp
  have HBX : Hid (Below W.heap.size W X) := by rw [Hid, hX]; exact hb1.trans ((Below.refl _ _).alloc hz _)
  have KX : X.heap[w1.heap.size]? = some (.cells #[.int .i64 m.id, .int .i64 m.fr, .int .i64 m.to, .int .i64 m.pr] 30 (0, 0)) := by rw [hX]; exact heap_new _ _
  obtain ⟨B, hB⟩ : ∃ B, w1.heap.size = B := ⟨_, rfl⟩
  rw [hB] at KX hXs hz hs1 ⊢
  have SX : X.heap[s]? = some (.cells #[.pointer t.root, .map (some b)] 56 (0, 0)) := (HBX.out.block s hs).trans HH.out.top
  clear hlook d0 d1 c0 c1 hX hB hb1
  have x0 := cell_of_row X B 0 _ _ _ KX
  have x1 := cell_of_row X B 1 _ _ _ KX
  have x2 := cell_of_row X B 2 _ _ _ KX
  have x3 := cell_of_row X B 3 _ _ _ KX
  have c0 := cell_of_row X s 0 _ _ _ SX
  have hBt : Hid (B ∉ t.blocks) := fun k => by have := HH.out.tree.lt B k; omega
  have HKX := Lib.hid KX
  have HSX := Lib.hid SX
  have PT : Hid (Calls Try.prog 28 #[.pointer t.root, .agg #[.int .i64 m.id, .int .i64 m.fr, .int .i64 m.to, .int .i64 m.pr]] X.drew (TakePost m t X.drew)) :=
    take_any m t X.drew ((HH.out.tree.chg (F := []) (Chg.of_below HBX.out) (by simp)).drew) n4 HH.out.srt HM.out
  clear KX SX
  go_wp2
  go_region_with ((go_at_call 28; (with_reducible refine (PT.out).mono ?_); rintro e w3 ⟨rfl, hx, hc3⟩; have T3 : w3.heap[s]? = some (.cells #[.pointer t.root, .map (some b)] 56 (0, 0)) := (hc3.block s (show s < X.heap.size from by omega) n2).trans HSX.out; have q0 := cell_of_row w3 s 0 _ _ _ T3; have f0 := frozen_of_row w3 s 0 _ _ T3; have HT := Lib.hid (taken_of HH.out HBX.out ((Chg.refl _ _).drew.trans hc3) hx); have HK3 := Lib.hid ((hc3.block B (show B < X.heap.size from by omega) hBt.out).trans HKX.out); clear hx hc3 T3))
  all_goals
    obtain ⟨w5, hw5⟩ : ∃ w5, w5 = w3.setCell ⟨s, 0, none⟩ (.pointer (takeT t m).root) := ⟨_, rfl⟩
    rw [← hw5]
    have HT5 : Hid (Taken W w5 s b t m) := by rw [hw5]; exact HT
    have hsB : s ≠ B := by omega
    have K5 : w5.heap[B]? = some (.cells #[.int .i64 m.id, .int .i64 m.fr, .int .i64 m.to, .int .i64 m.pr] 30 (0, 0)) := by rw [hw5]; exact (Below.heap_setCell _ _ _ _ (by simpa using Ne.symm hsB)).trans HK3.out
    have y0 := cell_of_row w5 B 0 _ _ _ K5
    have y1 := cell_of_row w5 B 1 _ _ _ K5
    have y2 := cell_of_row w5 B 2 _ _ _ K5
    have y3 := cell_of_row w5 B 3 _ _ _ K5
    have g1 := frozen_of_row w5 B 1 _ _ K5
    have g2 := frozen_of_row w5 B 2 _ _ K5
    have HK5 := Lib.hid K5
    clear x0 x1 x2 x3 q0 f0 c0 hw5 HT HK3 K5 PT
    go_wp2
    obtain ⟨w6, hw6⟩ : ∃ w6, w6 = (w5.setCell ⟨B, 1, none⟩ (.int .i64 f)).setCell ⟨B, 2, none⟩ (.int .i64 o) := ⟨_, rfl⟩
    rw [← hw6]
    have C6 : Hid (Chg (s :: b :: t.blocks) W w6) := by rw [hw6]; exact (HT5.out.chg.setCell (.inr (by omega)) _).setCell (.inr (by omega)) _
    have D6 : Chg [B] w5 w6 := by rw [hw6]; exact ((Chg.refl _ _).setCell (.inl (by simp)) _).setCell (.inl (by simp)) _
    have K6 : w6.heap[B]? = some (.cells #[.int .i64 m.id, .int .i64 f, .int .i64 o, .int .i64 m.pr] 30 (0, 0)) := by rw [hw6]; exact heap_setCell_same _ B 2 _ _ _ (heap_setCell_same w5 B 1 _ _ _ HK5.out)
    have S6 : w6.heap[s]? = some (.cells #[.pointer (takeT t m).root, .map (some b)] 56 (0, 0)) := (D6.block s (heap_lt HT5.out.top) (by simpa using hsB)).trans HT5.out.top
    have hbB : b ≠ B := by have := HH.out.lt b (by simp); omega
    have M6 : MapIs w6 b t.list := HT5.out.map.keep (D6.block b HT5.out.map.lt (by simpa using hbB))
    have T6 : InW w6 (takeT t m) := HT5.out.tree.chg D6 fun k hk hm => hBt.out (by simp at hm; subst hm; exact take_blocks t m _ hk)
    obtain ⟨w7, hrun, hm7, hc7⟩ := (M6.keep (w' := w6.drew) rfl).over (m' := ⟨m.id, f, o, m.pr⟩) HH.out.ids HM.out rfl
    have y0 := cell_of_row w6 B 0 _ _ _ K6
    have y1 := cell_of_row w6 B 1 _ _ _ K6
    have y2 := cell_of_row w6 B 2 _ _ _ K6
    have y3 := cell_of_row w6 B 3 _ _ _ K6
    have q1 := cell_of_row w6 s 1 _ _ _ S6
    have e7 : Chg [b] w6 w7 := ((Chg.refl _ _).drew).trans hc7
    have HK7 : Hid (w7.heap[B]? = some (.cells #[.int .i64 m.id, .int .i64 f, .int .i64 o, .int .i64 m.pr] 30 (0, 0))) := (e7.block B (heap_lt K6) (by simpa using Ne.symm hbB)).trans K6
    have HS7 : Hid (w7.heap[s]? = some (.cells #[.pointer (takeT t m).root, .map (some b)] 56 (0, 0))) := (e7.block s (heap_lt S6) (by simpa using n1)).trans S6
    have HM7 := Lib.hid hm7
    have C7 : Hid (Chg (s :: b :: t.blocks) W w7) := C6.out.trans (e7.mono fun k hk _ => by simp at hk; simp [hk])
    have PT2 : Hid (Calls Try.prog 27 #[.pointer (takeT t m).root, .agg #[.int .i64 m.id, .int .i64 f, .int .i64 o, .int .i64 m.pr]] w7.drew (PutPost ⟨m.id, f, o, m.pr⟩ (takeT t m) w7.drew)) :=
      put_any ⟨m.id, f, o, m.pr⟩ (takeT t m) w7.drew ((T6.chg e7 fun k hk hm => n3 (by simp at hm; subst hm; exact take_blocks t m _ hk)).drew) (take_nodup t m n4)
    clear g1 g2 K6 S6 M6 T6 hm7 hc7 e7 D6 C6 hw6 HK5
    simp only [mv] at hrun
    go_region
    have z0 := cell_of_row w7 B 0 _ _ _ HK7.out
    have z1 := cell_of_row w7 B 1 _ _ _ HK7.out
    have z2 := cell_of_row w7 B 2 _ _ _ HK7.out
    have z3 := cell_of_row w7 B 3 _ _ _ HK7.out
    have q0 := cell_of_row w7 s 0 _ _ _ HS7.out
    have hs7 := heap_lt HS7.out
    have n2' : Hid (s ∉ (takeT t m).blocks) := fun k => n2 (take_blocks t m s k)
    clear hrun y0 y1 y2 y3 q1
    go_wp2
    go_region_with ((go_at_call 27; (with_reducible refine (PT2.out).mono ?_); rintro e w8 ⟨g, hg1, hg2, rfl, hx, hc8⟩; have T8 : w8.heap[s]? = some (.cells #[.pointer (takeT t m).root, .map (some b)] 56 (0, 0)) := (hc8.block s hs7 n2'.out).trans HS7.out; have q8 := cell_of_row w8 s 0 _ _ _ T8; have f8 := frozen_of_row w8 s 0 _ _ T8; have HX := Lib.hid hx; have HC8 := Lib.hid hc8; clear hx hc8 T8))
    all_goals
      go_wp2
      go_ret
      have hl := take_list t m HH.out.srt HH.out.ids HM.out
      refine ⟨rfl, ?_⟩
      rw [← hl]
      refine put_fin HH.out (take_blocks t m) (take_nodup t m n4) ?_ (take_heap t m HH.out.srt HH.out.hp HH.out.ids HM.out) ?_ ?_ HS7.out ?_ C7.out ((Chg.refl _ _).drew.trans HC8.out) hg1 HX.out rfl
      · show List.Pairwise _ _
        rw [hl]
        exact srt_del HH.out.srt _
      · rw [hl]
        exact ids_del HH.out.ids _
      · rw [hl]
        intro x hx
        simpa using (List.mem_filter.1 hx).2
      · rw [hl]
        exact HM7.out
end Go.Proofs.Ytkibhinpbpgkeaa
