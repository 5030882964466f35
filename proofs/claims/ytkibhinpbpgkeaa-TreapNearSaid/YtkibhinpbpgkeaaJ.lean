/- The walk of Remove. -/
import Derived.Test.YtkibhinpbpgkeaaI
namespace Go.Proofs.Ytkibhinpbpgkeaa
open Go.RowKit Go.ChangeMaps

theorem srt_del {t : TR} (h : Srt t) (i : Int) : (del t.list i).Pairwise fun a b => lt a b = true := List.Pairwise.filter _ h
theorem ids_del {K : List Mk} (h : Ids K) (i : Int) : Ids (del K i) := List.Pairwise.filter _ h
/-- A taken tree, the map as it was. -/
structure Taken (W w5 : World) (s b : Nat) (t : TR) (m : Mk) : Prop where
  top : w5.heap[s]? = some (.cells #[.pointer (takeT t m).root, .map (some b)] 56 (0, 0))
  tree : InW w5 (takeT t m)
  map : MapIs w5 b t.list
  chg : Chg (s :: b :: t.blocks) W w5
theorem taken_of {W w1 w3 : World} {s b : Nat} {t : TR} {m : Mk} (h : SetIn W s b t) (h1 : Below W.heap.size W w1) (h3 : Chg t.blocks w1 w3) (hx : InW w3 (takeT t m)) : Taken W (w3.setCell ⟨s, 0, none⟩ (.pointer (takeT t m).root)) s b t m := by
  have hnd := h.nd
  simp only [List.nodup_cons, List.mem_cons, not_or] at hnd
  obtain ⟨⟨n1, n2⟩, n3, n4⟩ := hnd
  have hs : s < W.heap.size := h.lt s (by simp)
  have hb : b < W.heap.size := h.lt b (by simp)
  have z1 := h1.size
  refine ⟨?_, ?_, ?_, ?_⟩
  · exact top_set (((h3.block s (by omega) n2).trans (h1.block s hs)).trans h.top)
  · exact hx.setCell (fun hk => n2 (take_blocks t m s hk)) _ _
  · have e4 : (w3.setCell ⟨s, 0, none⟩ (.pointer (takeT t m).root)).heap[b]? = w3.heap[b]? := Below.heap_setCell _ _ _ _ (by simpa using Ne.symm n1)
    exact h.map.keep (e4.trans ((h3.block b (by omega) n3).trans (h1.block b hb)))
  · exact Chg.setCell ((Chg.of_below h1).trans (h3.mono fun k hk _ => by simp [hk])) (.inl (by simp)) _
theorem take_left {W w5 w4 : World} {s b : Nat} {t : TR} {m : Mk} (h : SetIn W s b t) (hm : m ∈ t.list) (ht : Taken W w5 s b t m) (h4 : Chg [b] w5 w4) (h5 : MapIs w4 b (del t.list m.id)) : Left W s b t (del t.list m.id) w4 := by
  have hnd := h.nd
  simp only [List.nodup_cons, List.mem_cons, not_or] at hnd
  obtain ⟨⟨n1, n2⟩, n3, n4⟩ := hnd
  have hl := take_list t m h.srt h.ids hm
  refine ⟨takeT t m, ⟨?_, by rw [hl]; exact h5, ?_, ?_, ?_, take_heap t m h.srt h.hp h.ids hm, ?_⟩, hl, fun g hg => .inl (take_blocks t m g hg), ?_⟩
  · exact (h4.block s (heap_lt ht.top) (by simpa using n1)).trans ht.top
  · exact ht.tree.chg h4 fun g hg hb => n3 (by simp at hb; subst hb; exact take_blocks t m g hg)
  · refine List.nodup_cons.2 ⟨?_, List.nodup_cons.2 ⟨fun hk => n3 (take_blocks t m b hk), take_nodup t m n4⟩⟩
    simp only [List.mem_cons, not_or]
    exact ⟨n1, fun hk => n2 (take_blocks t m s hk)⟩
  · show List.Pairwise _ _
    rw [hl]
    exact srt_del h.srt _
  · rw [hl]
    exact ids_del h.ids _
  · exact ht.chg.trans (h4.mono fun k hk _ => by simp at hk; simp [hk])

theorem rem_no (W : World) (s b : Nat) (t : TR) (i : Int) (h : SetIn W s b t) (hn : hasB t.list i = false) : Calls Try.prog 13 #[.pointer (some ⟨s, 0, none⟩), .int .i64 i] W fun e w' => e = .returned (.int .i64 4) ∧ Below W.heap.size W w' := by
  have Hv : Hid (hasB t.list i = false) := hn
  go_enter Try.func13, Try.ntmps13
  go_wp2_with (go_at_call 26; (with_reducible refine (has_v _ s b t i false Hv h).mono ?_); rintro e w1 ⟨rfl, hb1⟩)
  go_ret
  exact ⟨rfl, hb1⟩

set_option maxHeartbeats 1000000 in
theorem rem_yes (W : World) (s b : Nat) (t : TR) (m : Mk) (h : SetIn W s b t) (hm : m ∈ t.list) : Calls Try.prog 13 #[.pointer (some ⟨s, 0, none⟩), .int .i64 m.id] W fun e w' => e = .returned (.int .i64 0) ∧ Left W s b t (del t.list m.id) w' := by
  have hs : s < W.heap.size := h.lt s (by simp)
  obtain ⟨c0, c1⟩ := h.cells
  have hnd := h.nd
  simp only [List.nodup_cons, List.mem_cons, not_or] at hnd
  obtain ⟨⟨n1, n2⟩, n3, n4⟩ := hnd
  have HH := Lib.hid h
  have HM := Lib.hid hm
  have Hv : Hid (hasB t.list m.id = true) := by simp [Hid, hasB]; exact ⟨m, hm, rfl⟩
  have HL : Hid (∀ w', Below W.heap.size W w' → (Instr.lookup 53 (.map (some b)) (.int .i64 m.id) false).run Try.prog w'.drew = .ok (.agg #[.int .i64 m.id, .int .i64 m.fr, .int .i64 m.to, .int .i64 m.pr]) w'.drew) := by
    intro w' hb'
    exact (((HH.out.below hb' HH.out.lt).map.keep (w' := w'.drew) rfl).hit HH.out.ids HM.out).2
  clear h hm
  go_enter Try.func13, Try.ntmps13
  go_wp2_with (go_at_call 26; (with_reducible refine (has_v _ s b t m.id true Hv HH.out).mono ?_); rintro e w1 ⟨rfl, hb1⟩)
  have hz := hb1.size
  have d0 : w1.cell? ⟨s, 0, none⟩ = some (.pointer t.root) := (hb1.cell (p := ⟨s, 0, none⟩) hs).trans c0
  have d1 : w1.cell? ⟨s, 1, none⟩ = some (.map (some b)) := (hb1.cell (p := ⟨s, 1, none⟩) hs).trans c1
  have hlook := HL.out w1 hb1
  have PT : Hid (Calls Try.prog 28 #[.pointer t.root, .agg #[.int .i64 m.id, .int .i64 m.fr, .int .i64 m.to, .int .i64 m.pr]] w1.drew (TakePost m t w1.drew)) :=
    take_any m t w1.drew ((HH.out.tree.chg (F := []) (Chg.of_below hb1) (by simp)).drew) n4 HH.out.srt HM.out
  have HB1 := Lib.hid hb1
  have HT1 : Hid (w1.heap[s]? = some (.cells #[.pointer t.root, .map (some b)] 56 (0, 0))) := (hb1.block s hs).trans HH.out.top
  clear c0 c1 hb1
  go_region_with ((go_at_call 28; (with_reducible refine (PT.out).mono ?_); rintro e w3 ⟨rfl, hx, hc3⟩; have T3 : w3.heap[s]? = some (.cells #[.pointer t.root, .map (some b)] 56 (0, 0)) := (hc3.block s (show s < w1.heap.size from by omega) n2).trans HT1.out; have q0 := cell_of_row w3 s 0 _ _ _ T3; have q1 := cell_of_row w3 s 1 _ _ _ T3; have f0 := frozen_of_row w3 s 0 _ _ T3; have HT := Lib.hid (taken_of HH.out HB1.out ((Chg.refl _ _).drew.trans hc3) hx); obtain ⟨w4, hdel, hm4, hc4⟩ := HT.out.map.drop HH.out.ids HM.out; have HM4 := Lib.hid hm4; have HC4 := Lib.hid hc4; clear hx hc3 T3 hm4 hc4))
  all_goals
    go_wp2
    go_ret
    exact ⟨rfl, take_left HH.out HM.out HT.out HC4.out HM4.out⟩
end Go.Proofs.Ytkibhinpbpgkeaa
