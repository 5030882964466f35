/- The walk of the reference's Text. -/
import Derived.Test.YtpfceochplghlaaRa
import Derived.Test.YtpfceochplghlaaFa
namespace Go.Proofs.Ytpfceochplghlaa
open Go.RowKit
attribute [local go_sem ↓] Go.wp_at_zero Go.wp_at_succ

set_option maxHeartbeats 2000000 in
theorem rtext_any (W : World) (r : Nat) (G : List Nat) (T : Tb) (h : RefIn W r G T) :
    Calls Try.prog 20 #[.pointer (some ⟨r, 0, none⟩)] W fun e w' => ∃ v, e = .returned v ∧ w'.ownsRow W.heap.size 21 1 v (plen T.ps) (T.text.map (Value.int .i32)) ∧ Below W.heap.size W w' := by
  obtain ⟨i0, hi0, hz0, hz1, hz2⟩ := info_parts info21
  have HOK := Lib.hid h.ok
  have HRI := Lib.hid h
  obtain ⟨A0, n0, c0, A1, n1, c1, A2, n2, c2, hat, hFF, _⟩ := h
  have HAT := Lib.hid hat
  have HL := Lib.hid hat.lens.2.2
  obtain ⟨z0, z1, z2⟩ := hat.cells
  have htl := hat.lt r (by simp)
  have hn2 : n2 ≤ 1000 := by have h1 := count_le HOK.out.pos; have h2 := HOK.out.len; have h3 := HL.out; omega
  have HZ0 := Lib.hid z0
  have HZ1 := Lib.hid z1
  have HZ2 := Lib.hid z2
  clear hat hFF z0 z1
  go_enter Try.func20, Try.ntmps20
  go_wp2
  go_loopw [3, 4] (fun o i wr => ∃ (k : Nat) (v : Value) (w0 : World), w0 = wr ∧ k ≤ n2 ∧ i = .int .i64 k ∧ v = o ∧ Hid (wr.ownsRow W.heap.size 21 1 v (plen (T.ps.take k)) (((T.ps.take k).flatMap T.pc).map (Value.int .i32))) ∧ Hid (Below W.heap.size W wr)) (fun _ i _ => n2 - (intOf i).toNat)
  case atStart => exact ⟨0, _, _, rfl, Nat.zero_le _, rfl, rfl, World.ownsRow_nil _ _ _ _, Below.refl _ _⟩
  case round =>
    obtain ⟨k, v, wr, rfl, hk, rfl, rfl, HO, HB⟩ := hrel
    have z2 := (HB.out.cell (p := ⟨r, 2, none⟩) htl).trans HZ2.out
    by_cases hlt : k < n2
    · obtain ⟨g, p, rfl, hg, hpm, HP, y0, y1, y2⟩ := prow_at (HAT.out.below HB.out).r2 hlt
      obtain ⟨pa, pf, pl⟩ := p
      simp only at y0 y1 y2
      have hJ1 : (0 : Int) ≤ (k : Int) ∧ (k : Int) < (n2 : Int) := by omega
      obtain ⟨hJ1a, hJ1b⟩ := hJ1
      have hbd := pc_bound HOK.out hpm
      have htk := take_getDp (L := T.ps) (k := k) (by rw [HL.out]; exact hlt) HP.out
      have HTK : Hid (plen (T.ps.take (k + 1)) = plen (T.ps.take k) + pl ∧ (T.ps.take (k + 1)).flatMap T.pc = (T.ps.take k).flatMap T.pc ++ T.pc ⟨pa, pf, pl⟩) := by
        show _ ∧ _
        rw [htk, plen_append, plen_cons, plen_nil, List.flatMap_append]
        exact ⟨rfl, by simp⟩
      have hsum : plen (T.ps.take k) + pl ≤ 1000 := by
        have h1 := plen_take_le T.ps (k + 1)
        have h2 := HOK.out.len
        have h3 := HTK.out.1
        omega
      obtain ⟨s, hs⟩ : ∃ s, plen (T.ps.take k) = s := ⟨_, rfl⟩
      rw [hs] at hsum HTK HO
      have h63 : s + pl ≤ maxLen := by simp only [maxLen]; omega
      have hby : (s + pl) * 4 ≤ 140737488355328 := by omega
      have hwf : IntKind.i64.wrap ((pf : Int) + (pl : Int)) = (pf : Int) + (pl : Int) := IntWalk.i64_in _ (by simp only at hbd; omega)
      have hq0 : wr.heap.size < (wr.alloc (.cells #[.bool pa, .int .i64 pf, .int .i64 pl] 53 (0, 0))).heap.size := by simp
      have HBX : Hid (Below wr.heap.size wr (wr.alloc (.cells #[.bool pa, .int .i64 pf, .int .i64 pl] 53 (0, 0)))) := (Below.refl _ _).alloc (Nat.le_refl _) _
      have HOX : Hid ((wr.alloc (.cells #[.bool pa, .int .i64 pf, .int .i64 pl] 53 (0, 0))).ownsRow W.heap.size 21 1 v s (((T.ps.take k).flatMap T.pc).map (Value.int .i32))) := own_below HO.out HBX.out fun k hk => (HO.out.lt k hk).2
      have hx0 := heap_alloc_new wr (.cells #[.bool pa, .int .i64 pf, .int .i64 pl] 53 (0, 0))
      have hx1 := cell_of_row (wr.alloc (.cells #[.bool pa, .int .i64 pf, .int .i64 pl] 53 (0, 0))) wr.heap.size 1 _ _ _ hx0
      have hx2 := cell_of_row (wr.alloc (.cells #[.bool pa, .int .i64 pf, .int .i64 pl] 53 (0, 0))) wr.heap.size 2 _ _ _ hx0
      have HXB : Hid (Below W.heap.size W (wr.alloc (.cells #[.bool pa, .int .i64 pf, .int .i64 pl] 53 (0, 0)))) := HB.out.alloc HB.out.size _
      clear hpm htk hs hx0
      cases pa with
      | true =>
        have hfl : pf + pl ≤ n1 := by have h1 := hbd.1; have h2 := HAT.out.lens.2.1; simp only [Tb.src, if_true] at h1; omega
        obtain ⟨A3, hsl, hr3⟩ := view_at HAT.out.r1 hfl
        have HR3 : Hid (Rds W W.heap.size 1 A3 pl ((T.pc ⟨true, pf, pl⟩).map (Value.int .i32))) := hr3
        have zx1 := (HXB.out.cell (p := ⟨r, 1, none⟩) htl).trans HZ1.out
        clear hr3 hbd hfl
        go_wp2
        generalize hX : wr.alloc (.cells #[.bool true, .int .i64 pf, .int .i64 pl] 53 (0, 0)) = X at *
        have HKEEP : Hid (∀ w6, X.drew.grownBy w6 v.ownBlock → w6.cell? ⟨r, 1, none⟩ = some (.slice A1 n1 c1) ∧ w6.cell? ⟨wr.heap.size, 1, none⟩ = some (.int .i64 pf) ∧ w6.cell? ⟨wr.heap.size, 2, none⟩ = some (.int .i64 pl)) := fun w6 hg6 => by
          have hb6 : Below W.heap.size W w6 := HXB.out.drew.grown hg6 HXB.out.size (fun k hk => (HOX.out.lt k hk).1)
          have hk : w6.heap[wr.heap.size]? = X.heap[wr.heap.size]? := hg6.block _ hq0 fun e => by have := (HO.out.lt _ e.symm).2; omega
          exact ⟨(hb6.cell (p := ⟨r, 1, none⟩) htl).trans HZ1.out, (World.cell?_of_block (a := ⟨wr.heap.size, 1, none⟩) hk).trans hx1, (World.cell?_of_block (a := ⟨wr.heap.size, 2, none⟩) hk).trans hx2⟩
        clear hX
        go_region_held3 (fun w' => w'.cell? ⟨r, 1, none⟩ = some (.slice A1 n1 c1) ∧ w'.cell? ⟨wr.heap.size, 1, none⟩ = some (.int .i64 pf) ∧ w'.cell? ⟨wr.heap.size, 2, none⟩ = some (.int .i64 pl)) (first | exact hS6 | exact ⟨zx1, hx1, hx2⟩)
          (first | (refine step_append_rds (by rfl) (.tmp 24) (.tmp 36) 23 (by rfl) W.heap.size 21 i0 _ 1 4 Try.underlying23 hi0 hz0 hz1 hz2 rfl (by decide) v s _ (by rfl) HOX.out W.heap.size A3 pl _ _ (by rfl) (HR3.out.below HXB.out.drew) (oneCell_ints _) h63 hby HXB.out.size ?_; intro v6 w6 hown6 hg6 hat6; have HO6 := Lib.hid hown6; have HB6 : Hid (Below W.heap.size W w6) := HXB.out.drew.grown hg6 HXB.out.size (fun k hk => (HOX.out.lt k hk).1); have hS6 := HKEEP.out w6 hg6; clear hown6 hg6 hat6))
        all_goals
          go_wp2
          go_roundw
          case rel =>
            refine ⟨k + 1, v6, _, rfl, by omega, by go_num, rfl, ?_, HB6.out⟩
            have h1 := HO6.out
            rw [← List.map_append, ← HTK.out.2, ← HTK.out.1] at h1
            exact h1
          case measure => simp [intOf]; omega
      | false =>
        have hfl : pf + pl ≤ n0 := by have h1 := hbd.1; have h2 := HAT.out.lens.1; simp only [Tb.src, Bool.false_eq_true, if_false] at h1; omega
        obtain ⟨A3, hsl, hr3⟩ := view_at HAT.out.r0 hfl
        have HR3 : Hid (Rds W W.heap.size 1 A3 pl ((T.pc ⟨false, pf, pl⟩).map (Value.int .i32))) := hr3
        have zx1 := (HXB.out.cell (p := ⟨r, 0, none⟩) htl).trans HZ0.out
        clear hr3 hbd hfl
        go_wp2
        generalize hX : wr.alloc (.cells #[.bool false, .int .i64 pf, .int .i64 pl] 53 (0, 0)) = X at *
        have HKEEP : Hid (∀ w6, X.drew.grownBy w6 v.ownBlock → w6.cell? ⟨r, 0, none⟩ = some (.slice A0 n0 c0) ∧ w6.cell? ⟨wr.heap.size, 1, none⟩ = some (.int .i64 pf) ∧ w6.cell? ⟨wr.heap.size, 2, none⟩ = some (.int .i64 pl)) := fun w6 hg6 => by
          have hb6 : Below W.heap.size W w6 := HXB.out.drew.grown hg6 HXB.out.size (fun k hk => (HOX.out.lt k hk).1)
          have hk : w6.heap[wr.heap.size]? = X.heap[wr.heap.size]? := hg6.block _ hq0 fun e => by have := (HO.out.lt _ e.symm).2; omega
          exact ⟨(hb6.cell (p := ⟨r, 0, none⟩) htl).trans HZ0.out, (World.cell?_of_block (a := ⟨wr.heap.size, 1, none⟩) hk).trans hx1, (World.cell?_of_block (a := ⟨wr.heap.size, 2, none⟩) hk).trans hx2⟩
        clear hX
        go_region_held3 (fun w' => w'.cell? ⟨r, 0, none⟩ = some (.slice A0 n0 c0) ∧ w'.cell? ⟨wr.heap.size, 1, none⟩ = some (.int .i64 pf) ∧ w'.cell? ⟨wr.heap.size, 2, none⟩ = some (.int .i64 pl)) (first | exact hS6 | exact ⟨zx1, hx1, hx2⟩)
          (first | (refine step_append_rds (by rfl) (.tmp 38) (.tmp 50) 23 (by rfl) W.heap.size 21 i0 _ 1 4 Try.underlying23 hi0 hz0 hz1 hz2 rfl (by decide) v s _ (by rfl) HOX.out W.heap.size A3 pl _ _ (by rfl) (HR3.out.below HXB.out.drew) (oneCell_ints _) h63 hby HXB.out.size ?_; intro v6 w6 hown6 hg6 hat6; have HO6 := Lib.hid hown6; have HB6 : Hid (Below W.heap.size W w6) := HXB.out.drew.grown hg6 HXB.out.size (fun k hk => (HOX.out.lt k hk).1); have hS6 := HKEEP.out w6 hg6; clear hown6 hg6 hat6))
        all_goals
          go_wp2
          go_roundw
          case rel =>
            refine ⟨k + 1, v6, _, rfl, by omega, by go_num, rfl, ?_, HB6.out⟩
            have h1 := HO6.out
            rw [← List.map_append, ← HTK.out.2, ← HTK.out.1] at h1
            exact h1
          case measure => simp [intOf]; omega
    · have hkn : k = n2 := by omega
      have HO' : Hid (wr.ownsRow W.heap.size 21 1 v (plen T.ps) (T.text.map (Value.int .i32))) := by
        have h1 := HO.out
        rw [List.take_of_length_le (by rw [HL.out]; omega)] at h1
        exact h1
      go_wp2
      go_ret
      exact ⟨v, rfl, HO'.out, HB.out⟩
end Go.Proofs.Ytpfceochplghlaa
