/- The walk of Add where it adds. -/
import Derived.Test.YtkibhinpbpgkeaaH
namespace Go.Proofs.Ytkibhinpbpgkeaa
open Go.RowKit Go.ChangeMaps

theorem addN_zero {K : List Mk} {m : Mk} (h : addN K m = 0) : mayB m.fr m.to = true ∧ hasB K m.id = false ∧ K.length < 600 := by
  unfold addN at h
  split at h
  · omega
  · split at h
    · omega
    · split at h
      · omega
      · rename_i h1 h2 h3
        exact ⟨by simpa using h1, by simpa using h2, by omega⟩
/-- A put tree is a set's tree. -/
theorem put_left {W w1 w2 w3 w4 : World} {s b g : Nat} {t : TR} {m : Mk} (h : SetIn W s b t) (hid : ∀ x ∈ t.list, x.id ≠ m.id) (h1 : Below W.heap.size W w1) (hm : MapIs w2 b (m :: t.list)) (h2 : Chg [b] w1 w2)
    (h3 : Chg t.blocks w2 w3) (hg : w2.heap.size ≤ g) (hx : InW w3 (putT g t m)) (h4 : w4 = w3.setCell ⟨s, 0, none⟩ (.pointer (putT g t m).root)) : Left W s b t (ins t.list m) w4 := by
  subst h4
  have hnd := h.nd
  simp only [List.nodup_cons, List.mem_cons, not_or] at hnd
  obtain ⟨⟨n1, n2⟩, n3, n4⟩ := hnd
  have hs : s < W.heap.size := h.lt s (by simp)
  have hb : b < W.heap.size := h.lt b (by simp)
  have z1 := h1.size
  have z2 := h2.size
  have z3 := h3.size
  have hbl : ∀ k ∈ (putT g t m).blocks, k = g ∨ k ∈ t.blocks := fun k hk => List.mem_cons.1 ((put_blocks g t m).mem_iff.1 hk)
  have hl := put_list g t m h.srt hid
  refine ⟨putT g t m, ?_, hl, ?_, ?_⟩
  · refine ⟨?_, ?_, ?_, ?_, ?_, put_heap g t m h.srt h.hp hid, ?_⟩
    · have e1 : w1.heap[s]? = W.heap[s]? := h1.block s hs
      have e2 : w2.heap[s]? = w1.heap[s]? := h2.block s (by omega) (by simpa using n1)
      have e3 : w3.heap[s]? = w2.heap[s]? := h3.block s (by omega) n2
      exact top_set (((e3.trans e2).trans e1).trans h.top)
    · have e3 : w3.heap[b]? = w2.heap[b]? := h3.block b (by omega) n3
      have e4 : (w3.setCell ⟨s, 0, none⟩ (.pointer (putT g t m).root)).heap[b]? = w3.heap[b]? := Below.heap_setCell _ _ _ _ (by simpa using Ne.symm n1)
      refine (hm.keep (e4.trans e3)).perm ?_
      rw [hl]
      exact (ins_perm t.list m).symm
    · exact hx.setCell (fun hk => (hbl s hk).elim (fun e => by omega) n2) _ _
    · refine List.nodup_cons.2 ⟨?_, List.nodup_cons.2 ⟨?_, ?_⟩⟩
      · simp only [List.mem_cons, not_or]
        exact ⟨n1, fun hk => (hbl s hk).elim (fun e => by omega) n2⟩
      · exact fun hk => (hbl b hk).elim (fun e => by omega) n3
      · exact ((put_blocks g t m).nodup_iff).2 (List.nodup_cons.2 ⟨fun hk => by have := h.tree.lt g hk; omega, n4⟩)
    · show List.Pairwise _ _
      rw [hl]
      exact ins_sorted t.list m h.srt hid
    · rw [hl]
      exact ids_perm (ins_perm t.list m) (List.pairwise_cons.2 ⟨fun x hx => Ne.symm (hid x hx), h.ids⟩)
  · intro k hk
    rcases hbl k hk with e | e
    · right; omega
    · exact .inl e
  · refine Chg.setCell ?_ (.inl (by simp)) _
    exact ((Chg.of_below h1).trans (h2.mono fun k hk _ => by simp at hk; simp [hk])).trans (h3.mono fun k hk _ => by simp [hk])

set_option maxHeartbeats 1000000 in
theorem add_yes (W : World) (s b : Nat) (t : TR) (m : Mk) (h : SetIn W s b t) (hn : addN t.list m = 0) : Calls Try.prog 12 #[.pointer (some ⟨s, 0, none⟩), .agg #[.int .i64 m.id, .int .i64 m.fr, .int .i64 m.to, .int .i64 m.pr]] W fun e w' => e = .returned (.int .i64 0) ∧ Left W s b t (ins t.list m) w' := by
  obtain ⟨h1, h2, h3⟩ := addN_zero hn
  have hs : s < W.heap.size := h.lt s (by simp)
  have hb : b < W.heap.size := h.lt b (by simp)
  obtain ⟨c0, c1⟩ := h.cells
  have hnd := h.nd
  simp only [List.nodup_cons, List.mem_cons, not_or] at hnd
  obtain ⟨⟨n1, n2⟩, n3, n4⟩ := hnd
  have HI : Hid (∀ x ∈ t.list, x.id ≠ m.id) := hasB_false h2
  have HH := Lib.hid h
  have Hv : Hid (mayB m.fr m.to = true) := h1
  have Hv2 : Hid (hasB t.list m.id = false) := h2
  have h3' : decide ((t.list.length : Int) ≥ 600) = false := by simp; omega
  have HL : Hid (∀ w', Below W.heap.size W w' → (∀ ty, (Builtin.len_ #[53] ty #[.map (some b)]).run Try.prog w' = .ok (.int .i64 t.list.length) w') ∧ ∃ w2, (Instr.mapUpdate 53 (.map (some b)) (.int .i64 m.id) (.agg #[.int .i64 m.id, .int .i64 m.fr, .int .i64 m.to, .int .i64 m.pr])).run Try.prog w'.drew = .ok () w2 ∧ MapIs w2 b (m :: t.list) ∧ Chg [b] w' w2) := by
    intro w' hb'
    have hm := (HH.out.below hb' HH.out.lt).map
    refine ⟨fun ty => hm.len ty, ?_⟩
    obtain ⟨w2, hrun, hm2, hc2⟩ := (hm.keep (w' := w'.drew) rfl).push HI.out
    exact ⟨w2, hrun, hm2, ((Chg.refl _ _).drew).trans hc2⟩
  clear h h1 h2 hn h3
  go_enter Try.func12, Try.ntmps12
  go_wp2_with (first | (go_at_call 25; (with_reducible refine (may_v m.fr m.to true Hv _).mono ?_); rintro e w' ⟨rfl, rfl⟩) | (go_at_call 26; (with_reducible refine (has_v _ s b t m.id false Hv2 (HH.out.below ((Below.refl _ _).alloc (Nat.le_refl _) _) HH.out.lt)).mono ?_); rintro e w1 ⟨rfl, hb1⟩; have hcl1 := cells_of hb1; have hz1 : W.heap.size < w1.heap.size := (by have hz := hb1.size; (try simp at hz); omega); have HB1 : Below W.heap.size W w1 := ((Below.refl _ _).alloc (Nat.le_refl _) _).trans (hb1.mono (by simp)); obtain ⟨hlen, w2, hrun, hm2, hc2⟩ := HL.out w1 HB1; clear hb1))
  have hbx : w1.cell? ⟨W.heap.size, 0, none⟩ = some (.int .i64 m.id) ∧ w1.cell? ⟨W.heap.size, 1, none⟩ = some (.int .i64 m.fr) ∧ w1.cell? ⟨W.heap.size, 2, none⟩ = some (.int .i64 m.to) ∧ w1.cell? ⟨W.heap.size, 3, none⟩ = some (.int .i64 m.pr) := by
    refine ⟨?_, ?_, ?_, ?_⟩ <;> simp [go_sem, *]
  obtain ⟨b0, b1, b2, b3⟩ := hbx
  have d0 : w1.cell? ⟨s, 0, none⟩ = some (.pointer t.root) := (HB1.cell (p := ⟨s, 0, none⟩) hs).trans c0
  have d1 : w1.cell? ⟨s, 1, none⟩ = some (.map (some b)) := (HB1.cell (p := ⟨s, 1, none⟩) hs).trans c1
  clear hcl1 c0 c1 hlen
  go_region
  have e0 : w2.cell? ⟨s, 0, none⟩ = some (.pointer t.root) := (cell_of_heap (hc2.block s (by omega) (by simpa using n1)) 0).trans d0
  have hk : w2.heap[W.heap.size]? = w1.heap[W.heap.size]? := hc2.block _ hz1 (by simp; omega)
  have k0 := (cell_of_heap hk 0).trans b0
  have k1 := (cell_of_heap hk 1).trans b1
  have k2 := (cell_of_heap hk 2).trans b2
  have k3 := (cell_of_heap hk 3).trans b3
  have hsz := hc2.size
  have HT2 : Hid (w2.heap[s]? = some (.cells #[.pointer t.root, .map (some b)] 56 (0, 0))) := ((hc2.block s (by omega) (by simpa using n1)).trans (HB1.block s hs)).trans HH.out.top
  have PT : Hid (Calls Try.prog 27 #[.pointer t.root, .agg #[.int .i64 m.id, .int .i64 m.fr, .int .i64 m.to, .int .i64 m.pr]] w2.drew (PutPost m t w2.drew)) :=
    put_any m t w2.drew (((HH.out.tree.chg (F := []) (Chg.of_below HB1) (by simp)).chg hc2 (fun k hk hm => by simp at hm; subst hm; exact n3 hk)).drew) n4
  have HM2 := Lib.hid hm2
  have HC2 := Lib.hid hc2
  clear hrun hk b0 b1 b2 b3 d0 d1 hm2 hc2
  go_wp2
  go_region_with ((go_at_call 27; (with_reducible refine (PT.out).mono ?_); rintro e w3 ⟨g, hg1, hg2, rfl, hx, hc3⟩; have T3 : w3.heap[s]? = some (.cells #[.pointer t.root, .map (some b)] 56 (0, 0)) := (hc3.block s (show s < w2.heap.size from by omega) n2).trans HT2.out; have q0 := cell_of_row w3 s 0 _ _ _ T3; have f0 := frozen_of_row w3 s 0 _ _ T3; have HX := Lib.hid hx; have HC3 := Lib.hid hc3; clear hx hc3 T3))
  all_goals
    go_wp2
    go_ret
    exact ⟨rfl, put_left HH.out HI.out HB1 HM2.out HC2.out ((Chg.refl _ _).drew.trans HC3.out) hg1 HX.out rfl⟩
end Go.Proofs.Ytkibhinpbpgkeaa
