/- The reference's table in memory; the walks of its Len, Text. -/
import Derived.Test.YtpfceochplghlaaYc
import Derived.Test.YtpfceochplghlaaT
namespace Go.Proofs.Ytpfceochplghlaa
open Go.RowKit
attribute [local go_sem ↓] Go.wp_at_zero Go.wp_at_succ

/-- The cells of the reference's table at block r. -/
structure RefAt (W : World) (r : Nat) (A0 : Option Addr) (n0 c0 : Nat) (A1 : Option Addr) (n1 c1 : Nat) (A2 : Option Addr) (n2 c2 : Nat) (T : Tb) : Prop where
  top : W.heap[r]? = some (.cells #[.slice A0 n0 c0, .slice A1 n1 c1, .slice A2 n2 c2] 66 (0, 0))
  r0 : W.ownsRow 0 21 1 (.slice A0 n0 c0) n0 (T.fst.map (Value.int .i32))
  r1 : W.ownsRow 0 21 1 (.slice A1 n1 c1) n1 (T.add.map (Value.int .i32))
  r2 : W.ownsRow 0 53 3 (.slice A2 n2 c2) n2 (pcs T.ps)
  nd : r ∉ blk A0 ++ blk A1 ++ blk A2
/-- The reference's table at block r, whose blocks are G. -/
def RefIn (W : World) (r : Nat) (G : List Nat) (T : Tb) : Prop :=
  ∃ A0 n0 c0 A1 n1 c1 A2 n2 c2, RefAt W r A0 n0 c0 A1 n1 c1 A2 n2 c2 T ∧ G = r :: (blk A0 ++ blk A1 ++ blk A2) ∧ T.Ok
section
variable {W w : World} {r n0 c0 n1 c1 n2 c2 : Nat} {A0 A1 A2 : Option Addr} {T : Tb} {F G : List Nat}
theorem RefAt.lt (h : RefAt W r A0 n0 c0 A1 n1 c1 A2 n2 c2 T) : ∀ g ∈ r :: (blk A0 ++ blk A1 ++ blk A2), g < W.heap.size := by
  intro g hg
  simp only [List.mem_cons, List.mem_append] at hg
  rcases hg with rfl | (hg | hg) | hg
  · exact (Array.getElem?_eq_some_iff.1 h.top).1
  · exact blk_lt h.r0 g hg
  · exact blk_lt h.r1 g hg
  · exact blk_lt h.r2 g hg
theorem RefAt.chg (h : RefAt W r A0 n0 c0 A1 n1 c1 A2 n2 c2 T) (hc : Chg G W w) (hn : ∀ g ∈ r :: (blk A0 ++ blk A1 ++ blk A2), g ∉ G) : RefAt w r A0 n0 c0 A1 n1 c1 A2 n2 c2 T where
  top := (hc.block r (h.lt r (by simp)) (hn r (by simp))).trans h.top
  r0 := own_keep h.r0 hc fun g hg => hn g (by simp [hg])
  r1 := own_keep h.r1 hc fun g hg => hn g (by simp [hg])
  r2 := own_keep h.r2 hc fun g hg => hn g (by simp [hg])
  nd := h.nd
theorem RefAt.cells (h : RefAt W r A0 n0 c0 A1 n1 c1 A2 n2 c2 T) : W.cell? ⟨r, 0, none⟩ = some (.slice A0 n0 c0) ∧ W.cell? ⟨r, 1, none⟩ = some (.slice A1 n1 c1) ∧ W.cell? ⟨r, 2, none⟩ = some (.slice A2 n2 c2) :=
  ⟨cell_of_row W r 0 _ _ _ h.top, cell_of_row W r 1 _ _ _ h.top, cell_of_row W r 2 _ _ _ h.top⟩
theorem RefAt.free (h : RefAt W r A0 n0 c0 A1 n1 c1 A2 n2 c2 T) (j : Nat) : W.frozen? ⟨r, j, none⟩ = false := frozen_of_row W r j _ _ h.top
theorem RefAt.lens (h : RefAt W r A0 n0 c0 A1 n1 c1 A2 n2 c2 T) : T.fst.length = n0 ∧ T.add.length = n1 ∧ T.ps.length = n2 := by
  have a := h.r0.1
  have b := h.r1.1
  have c := h.r2.1
  rw [pcs_len] at c
  simp at a b
  omega
theorem RefAt.below (h : RefAt W r A0 n0 c0 A1 n1 c1 A2 n2 c2 T) (hb : Below W.heap.size W w) : RefAt w r A0 n0 c0 A1 n1 c1 A2 n2 c2 T := h.chg (Chg.of_below (F := []) hb) (by simp)
theorem RefIn.lt (h : RefIn W r G T) : ∀ g ∈ G, g < W.heap.size := by
  obtain ⟨A0, n0, c0, A1, n1, c1, A2, n2, c2, h, rfl, _⟩ := h
  exact h.lt
theorem RefIn.chg (h : RefIn W r G T) (hc : Chg F W w) (hn : ∀ g ∈ G, g ∉ F) : RefIn w r G T := by
  obtain ⟨A0, n0, c0, A1, n1, c1, A2, n2, c2, h, rfl, k⟩ := h
  exact ⟨A0, n0, c0, A1, n1, c1, A2, n2, c2, h.chg hc hn, rfl, k⟩
theorem RefIn.below (h : RefIn W r G T) (hb : Below W.heap.size W w) : RefIn w r G T := h.chg (Chg.of_below (F := []) hb) (by simp)
theorem RefIn.ok (h : RefIn W r G T) : T.Ok := by
  obtain ⟨A0, n0, c0, A1, n1, c1, A2, n2, c2, h, rfl, k⟩ := h
  exact k
end
set_option maxHeartbeats 400000 in
theorem rlen_any (W : World) (r : Nat) (G : List Nat) (T : Tb) (h : RefIn W r G T) : Calls Try.prog 41 #[.pointer (some ⟨r, 0, none⟩)] W fun e w' => e = .returned (.int .i64 (plen T.ps : Nat)) ∧ W = w' := by
  have HOK := Lib.hid h.ok
  obtain ⟨A0, n0, c0, A1, n1, c1, A2, n2, c2, hat, hFF, _⟩ := h
  have HAT := Lib.hid hat
  have HL := Lib.hid hat.lens.2.2
  obtain ⟨z0, z1, z2⟩ := hat.cells
  have hn2 : n2 ≤ 1000 := by have h1 := count_le HOK.out.pos; have h2 := HOK.out.len; have h3 := HL.out; omega
  clear z0 z1 hat hFF
  go_enter Try.func41, Try.ntmps41
  go_wp2
  go_loop [3, 4] (fun s i => ∃ (k q : Nat), k ≤ n2 ∧ i = .int .i64 k ∧ s = .int .i64 q ∧ Hid (plen (T.ps.take k) = q)) (fun _ i => n2 - (intOf i).toNat)
  case atStart => exact ⟨0, 0, Nat.zero_le _, rfl, rfl, rfl⟩
  case round =>
    obtain ⟨k, q, hk, rfl, rfl, HQ⟩ := hrel
    by_cases hlt : k < n2
    · obtain ⟨g, p, rfl, hg, hpm, HP, y0, y1, y2⟩ := prow_at HAT.out.r2 hlt
      obtain ⟨pa, pf, pl⟩ := p
      simp only at y0 y1 y2
      have hsn := take_getDp (L := T.ps) (k := k) (by rw [HL.out]; exact hlt) HP.out
      have HSN : Hid (plen (T.ps.take (k + 1)) = q + pl) := by
        show _ = _
        rw [hsn, plen_append, plen_cons, plen_nil, HQ.out]
        rfl
      have hsle : q + pl ≤ 1000 := by
        have h1 := plen_take_le T.ps (k + 1)
        have h2 := HSN.out
        have h3 := HOK.out.len
        omega
      have hJ1 : (0 : Int) ≤ (k : Int) ∧ (k : Int) < (n2 : Int) := by omega
      obtain ⟨hJ1a, hJ1b⟩ := hJ1
      obtain ⟨s2, hs2⟩ : ∃ s2, q + pl = s2 := ⟨_, rfl⟩
      have hws : IntKind.i64.wrap ((q : Int) + (pl : Int)) = (s2 : Int) := by rw [show (q : Int) + (pl : Int) = (s2 : Int) from by omega]; exact IntWalk.i64_in _ (by omega)
      rw [hs2] at HSN
      clear hpm hsn hs2
      go_wp2
      go_round
      case rel => exact ⟨k + 1, s2, by omega, by go_num, rfl, HSN.out⟩
      case measure => simp [intOf]; omega
    · have hs : q = plen T.ps := by
        have h1 := HQ.out
        rw [List.take_of_length_le (by have := HL.out; omega)] at h1
        exact h1.symm
      have HE := Lib.hid hs
      clear hs
      go_wp2
      go_ret
      exact ⟨ret_int (by rw [HE.out]), rfl⟩
end Go.Proofs.Ytpfceochplghlaa
