/- The walk of Depth of the reference. -/
import Derived.Test.YtkibhinpbpgkeaaRb
namespace Go.Proofs.Ytkibhinpbpgkeaa
open Go.RowKit Go.ChangeMaps
attribute [local go_sem ↓] Go.wp_at_zero Go.wp_at_succ

theorem over_v (a b : Mk) (v : Bool) (hv : Hid (abv a b = v)) (w : World) : Calls Try.prog 36 #[.agg #[.int .i64 a.id, .int .i64 a.fr, .int .i64 a.to, .int .i64 a.pr], .agg #[.int .i64 b.id, .int .i64 b.fr, .int .i64 b.to, .int .i64 b.pr]] w
    fun e w' => e = .returned (.bool v) ∧ Below w.heap.size w w' := by
  have h := hv.out; subst h; exact over_any a b w
/-- A mark in a box. -/
def Bx (w : World) (B : Nat) (t : Mk) : Prop := w.heap[B]? = some (.cells #[.int .i64 t.id, .int .i64 t.fr, .int .i64 t.to, .int .i64 t.pr] 30 (0, 0))
theorem Bx.cells {w : World} {B : Nat} {t : Mk} (h : Bx w B t) : w.cell? ⟨B, 0, none⟩ = some (.int .i64 t.id) ∧ w.cell? ⟨B, 1, none⟩ = some (.int .i64 t.fr) ∧ w.cell? ⟨B, 2, none⟩ = some (.int .i64 t.to) ∧ w.cell? ⟨B, 3, none⟩ = some (.int .i64 t.pr) :=
  ⟨cell_of_row w B 0 _ _ _ h, cell_of_row w B 1 _ _ _ h, cell_of_row w B 2 _ _ _ h, cell_of_row w B 3 _ _ _ h⟩
theorem Bx.free {w : World} {B : Nat} {t : Mk} (h : Bx w B t) (j : Nat) : w.frozen? ⟨B, j, none⟩ = false := frozen_of_row w B j _ _ h
theorem Bx.below {w w' : World} {B N : Nat} {t : Mk} (h : Bx w B t) (hb : Below N w w') (hB : B < N) : Bx w' B t := (hb.block B hB).trans h

/-- A mark is laid into a box. -/
def st4 (w : World) (B : Nat) (x : Mk) : World := (((w.setCell ⟨B, 0, none⟩ (.int .i64 x.id)).setCell ⟨B, 1, none⟩ (.int .i64 x.fr)).setCell ⟨B, 2, none⟩ (.int .i64 x.to)).setCell ⟨B, 3, none⟩ (.int .i64 x.pr)
theorem st4_cell (w : World) (B : Nat) (x : Mk) (p : Addr) (h : p.block ≠ B) : (st4 w B x).cell? p = w.cell? p := by
  have e : ∀ (w : World) (o : Nat) (v : Value), (w.setCell ⟨B, o, none⟩ v).cell? p = w.cell? p := fun w o v => World.cell?_setCell_other w ⟨B, o, none⟩ p v (by intro e; exact h (by rw [← e]))
  unfold st4
  rw [e, e, e, e]
theorem st4_bx {w : World} {B : Nat} {t : Mk} (x : Mk) (h : Bx w B t) : Bx (st4 w B x) B x := by
  have h0 := heap_setCell_same w B 0 _ _ (.int .i64 x.id) h
  have h1 := heap_setCell_same _ B 1 _ _ (.int .i64 x.fr) h0
  have h2 := heap_setCell_same _ B 2 _ _ (.int .i64 x.to) h1
  exact heap_setCell_same _ B 3 _ _ (.int .i64 x.pr) h2
theorem st4_below {a w : World} {N B : Nat} (x : Mk) (h : Below N a w) (hB : N ≤ B) : Below N a (st4 w B x) :=
  (((h.setCell (p := ⟨B, 0, none⟩) hB _).setCell (p := ⟨B, 1, none⟩) hB _).setCell (p := ⟨B, 2, none⟩) hB _).setCell (p := ⟨B, 3, none⟩) hB _

set_option maxRecDepth 100000 in
set_option maxHeartbeats 4000000 in
theorem rdepth_yes (W : World) (r : Nat) (A : Option Addr) (n c : Nat) (K : List Mk) (i : Int) (k : Nat) (m : Mk) (h : RefIn W r A n c K) (hn : n ≤ 1000) (hf : Hid (fidx K i = k)) (hk : k < n) (hm : Hid (K.getD k ⟨0, 0, 0, 0⟩ = m)) :
    Calls Try.prog 20 #[.pointer (some ⟨r, 0, none⟩), .int .i64 i] W fun e w' => e = .returned (.int .i64 (dep (K.take k) m (K.drop (k + 1)) : Nat)) ∧ Below W.heap.size W w' := by
  have hr0 := h.lt
  have HH := Lib.hid h
  have HR := Lib.hid h.rd
  have c0 := h.cell
  have HC00 := Lib.hid h.cell
  obtain ⟨ad, m', rfl, hBa, Hm, e0, e1, e2, e3⟩ := h.rd.at_ hk
  obtain rfl : m' = m := Hm.out.symm.trans hm.out
  have hJ1 : (0 : Int) ≤ (k : Int) := by omega
  have hJ2 : (k : Int) < (n : Int) := by omega
  clear h
  go_enter Try.func20, Try.ntmps20
  go_wp2_with (go_at_call 34; (with_reducible refine (find_any W r (some ad) n c K i k hf HH.out hn).mono ?_); rintro e w' ⟨rfl, rfl⟩)
  go_region_held3 (fun w' => w'.cell? ⟨r, 0, none⟩ = some (.slice (some ad) n c) ∧ w'.cell? (ad.add (k * 4)) = some (.int .i64 m'.id) ∧ w'.cell? ⟨(ad.add (k * 4)).block, (ad.add (k * 4)).off + 1, none⟩ = some (.int .i64 m'.fr) ∧ w'.cell? ⟨(ad.add (k * 4)).block, (ad.add (k * 4)).off + 2, none⟩ = some (.int .i64 m'.to) ∧ w'.cell? ⟨(ad.add (k * 4)).block, (ad.add (k * 4)).off + 3, none⟩ = some (.int .i64 m'.pr)) (simp [go_sem, World.cell?_alloc_past, *]) (fail)
  go_wp2
  go_loopw [6, 8] (fun x6 x8 wr => ∃ (j v : Nat) (y : Int) (t : Mk) (w0 : World), w0 = wr ∧ j ≤ k ∧ y + 1 = j ∧ x8 = .int .i64 y ∧ x6 = .int .i64 v ∧ v + j ≤ 1 + k ∧ Hid (v + cnt (K.take j).reverse t = 1 + cnt (K.take k).reverse m') ∧ Bx wr W.heap.size t ∧ Below W.heap.size W wr) (fun _ x8 _ => (intOf x8 + 1).toNat)
  case atStart => exact ⟨k, 1, _, m', _, rfl, Nat.le_refl _, by omega, rfl, rfl, by omega, rfl, (show (W.alloc _).heap[W.heap.size]? = _ from heap_new _ _), ((Below.refl _ _).alloc (Nat.le_refl _) _).drew⟩
  case round =>
    obtain ⟨j, v, y, t, wr, rfl, hj, hy, rfl, rfl, hv, HV, hbx, hbw⟩ := hrel
    have c0 := (hbw.cell (p := ⟨r, 0, none⟩) hr0).trans c0
    have hzB := heap_lt hbx
    by_cases hlt : 0 < j
    · obtain ⟨g, hg⟩ : ∃ g, j = g + 1 := ⟨j - 1, by omega⟩
      subst hg
      obtain rfl : y = (g : Int) := by omega
      obtain ⟨ad2, x, hA2, hBx, Hx, x0, x1, x2, x3⟩ := (HR.out.below hbw).at_ (show g < n by omega)
      obtain rfl : ad = ad2 := by injection hA2
      obtain ⟨b0, b1, b2, b3⟩ := hbx.cells
      have hJ3 : (0 : Int) ≤ (g : Int) := by omega
      have hJ4 : (g : Int) < (n : Int) := by omega
      have HBW := Lib.hid hbw
      have HBX := Lib.hid hbx
      have hxl : (ad.add (g * 4)).block < wr.heap.size := by omega
      have HC8 : Hid (∀ w', Below wr.heap.size wr w' → w'.cell? ⟨r, 0, none⟩ = some (.slice (some ad) n c) ∧ w'.cell? (ad.add (g * 4)) = some (.int .i64 x.id) ∧ w'.cell? ⟨(ad.add (g * 4)).block, (ad.add (g * 4)).off + 1, none⟩ = some (.int .i64 x.fr) ∧ w'.cell? ⟨(ad.add (g * 4)).block, (ad.add (g * 4)).off + 2, none⟩ = some (.int .i64 x.to) ∧ w'.cell? ⟨(ad.add (g * 4)).block, (ad.add (g * 4)).off + 3, none⟩ = some (.int .i64 x.pr) ∧ w'.cell? ⟨W.heap.size, 0, none⟩ = some (.int .i64 t.id) ∧ w'.cell? ⟨W.heap.size, 1, none⟩ = some (.int .i64 t.fr) ∧ w'.cell? ⟨W.heap.size, 2, none⟩ = some (.int .i64 t.to) ∧ w'.cell? ⟨W.heap.size, 3, none⟩ = some (.int .i64 t.pr)) := fun w' hb => ⟨(hb.cell (p := ⟨r, 0, none⟩) (show r < wr.heap.size by omega)).trans c0, (hb.cell (p := ad.add (g * 4)) hxl).trans x0, (hb.cell (p := ⟨(ad.add (g * 4)).block, (ad.add (g * 4)).off + 1, none⟩) hxl).trans x1, (hb.cell (p := ⟨(ad.add (g * 4)).block, (ad.add (g * 4)).off + 2, none⟩) hxl).trans x2, (hb.cell (p := ⟨(ad.add (g * 4)).block, (ad.add (g * 4)).off + 3, none⟩) hxl).trans x3, (hb.cell (p := ⟨W.heap.size, 0, none⟩) hzB).trans b0, (hb.cell (p := ⟨W.heap.size, 1, none⟩) hzB).trans b1, (hb.cell (p := ⟨W.heap.size, 2, none⟩) hzB).trans b2, (hb.cell (p := ⟨W.heap.size, 3, none⟩) hzB).trans b3⟩
      have hiy : IntKind.i64.wrap ((g : Int) - 1) = (g : Int) - 1 := IntWalk.i64_in _ (by omega)
      have hwv : IntKind.i64.wrap ((v : Int) + 1) = (v : Int) + 1 := IntWalk.i64_in _ (by omega)
      have htk : (K.take (g + 1)).reverse = x :: (K.take g).reverse := by rw [take_getD K g (by have := HH.out.len; omega), Hx.out, List.reverse_append]; rfl
      clear hbx hbw hA2 hlt c0 e0 e1 e2 e3 b0 b1 b2 b3 x0 x1 x2 x3
      by_cases hab : abv x t = true
      · have HAB : Hid (abv x t = true) := hab
        have HV2 : Hid (v + 1 + cnt (K.take g).reverse x = 1 + cnt (K.take k).reverse m') := by
          have h := HV.out
          rw [htk, cnt, if_pos hab] at h
          rw [Hid]; omega
        clear hab htk
        go_wp2
        go_region_held3 (fun w' => w'.cell? ⟨r, 0, none⟩ = some (.slice (some ad) n c) ∧ w'.cell? (ad.add (g * 4)) = some (.int .i64 x.id) ∧ w'.cell? ⟨(ad.add (g * 4)).block, (ad.add (g * 4)).off + 1, none⟩ = some (.int .i64 x.fr) ∧ w'.cell? ⟨(ad.add (g * 4)).block, (ad.add (g * 4)).off + 2, none⟩ = some (.int .i64 x.to) ∧ w'.cell? ⟨(ad.add (g * 4)).block, (ad.add (g * 4)).off + 3, none⟩ = some (.int .i64 x.pr) ∧ w'.cell? ⟨W.heap.size, 0, none⟩ = some (.int .i64 t.id) ∧ w'.cell? ⟨W.heap.size, 1, none⟩ = some (.int .i64 t.fr) ∧ w'.cell? ⟨W.heap.size, 2, none⟩ = some (.int .i64 t.to) ∧ w'.cell? ⟨W.heap.size, 3, none⟩ = some (.int .i64 t.pr)) (exact HC8.out _ (by repeat (first | exact HY1.out | exact Below.refl _ _ | refine Below.drew ?_)))
          ((go_at_call 36; (with_reducible refine (over_v x t true HAB _).mono ?_); rintro e u1 ⟨rfl, hd1⟩; have HY1 : Hid (Below wr.heap.size wr u1) := ((Below.refl _ _).drew).trans hd1; clear hd1))
        have hzu : wr.heap.size ≤ u1.heap.size := HY1.out.size
        obtain ⟨c0, x0, x1, x2, x3, b0, b1, b2, b3⟩ := HC8.out _ HY1.out
        have HX1 : Hid (Bx u1 W.heap.size t) := HBX.out.below HY1.out hzB
        have f0 := HX1.out.free 0
        have f1 := HX1.out.free 1
        have f2 := HX1.out.free 2
        have f3 := HX1.out.free 3
        clear HC8
        have hnB : r ≠ W.heap.size := by omega
        have hnx : (ad.add (g * 4)).block ≠ W.heap.size := by omega
        have HK9 : Hid ((st4 u1 W.heap.size x).drew.cell? ⟨r, 0, none⟩ = some (.slice (some ad) n c) ∧ (st4 u1 W.heap.size x).drew.cell? (ad.add (g * 4)) = some (.int .i64 x.id) ∧ (st4 u1 W.heap.size x).drew.cell? ⟨(ad.add (g * 4)).block, (ad.add (g * 4)).off + 1, none⟩ = some (.int .i64 x.fr) ∧ (st4 u1 W.heap.size x).drew.cell? ⟨(ad.add (g * 4)).block, (ad.add (g * 4)).off + 2, none⟩ = some (.int .i64 x.to) ∧ (st4 u1 W.heap.size x).drew.cell? ⟨(ad.add (g * 4)).block, (ad.add (g * 4)).off + 3, none⟩ = some (.int .i64 x.pr)) := ⟨(st4_cell u1 _ x ⟨r, 0, none⟩ hnB).trans c0, (st4_cell u1 _ x (ad.add (g * 4)) hnx).trans x0, (st4_cell u1 _ x ⟨(ad.add (g * 4)).block, _, none⟩ hnx).trans x1, (st4_cell u1 _ x ⟨(ad.add (g * 4)).block, _, none⟩ hnx).trans x2, (st4_cell u1 _ x ⟨(ad.add (g * 4)).block, _, none⟩ hnx).trans x3⟩
        have HK0 : Hid (u1.drew.cell? ⟨r, 0, none⟩ = some (.slice (some ad) n c) ∧ u1.drew.cell? (ad.add (g * 4)) = some (.int .i64 x.id) ∧ u1.drew.cell? ⟨(ad.add (g * 4)).block, (ad.add (g * 4)).off + 1, none⟩ = some (.int .i64 x.fr) ∧ u1.drew.cell? ⟨(ad.add (g * 4)).block, (ad.add (g * 4)).off + 2, none⟩ = some (.int .i64 x.to) ∧ u1.drew.cell? ⟨(ad.add (g * 4)).block, (ad.add (g * 4)).off + 3, none⟩ = some (.int .i64 x.pr)) := ⟨c0, x0, x1, x2, x3⟩
        go_wp2
        go_region_held3 (fun w' => w'.cell? ⟨r, 0, none⟩ = some (.slice (some ad) n c) ∧ w'.cell? (ad.add (g * 4)) = some (.int .i64 x.id) ∧ w'.cell? ⟨(ad.add (g * 4)).block, (ad.add (g * 4)).off + 1, none⟩ = some (.int .i64 x.fr) ∧ w'.cell? ⟨(ad.add (g * 4)).block, (ad.add (g * 4)).off + 2, none⟩ = some (.int .i64 x.to) ∧ w'.cell? ⟨(ad.add (g * 4)).block, (ad.add (g * 4)).off + 3, none⟩ = some (.int .i64 x.pr)) (first | exact HK9.out | exact HK0.out) (fail)
        go_wp2
        clear hwv hiy
        exact ⟨⟨g, v + 1, (g : Int) - 1, x, _, rfl, by omega, by omega, rfl, by go_num, by omega, HV2, st4_bx x HX1.out, (st4_below x (HBW.out.trans (HY1.out.mono (by omega))) (Nat.le_refl _)).drew⟩, by first | (simp [intOf]; done) | (simp [intOf]; omega)⟩
      · have HAB : Hid (abv x t = false) := by simpa [Hid] using hab
        have HV2 : Hid (v + cnt (K.take g).reverse t = 1 + cnt (K.take k).reverse m') := by
          have h := HV.out
          rw [htk, cnt, if_neg hab] at h
          exact h
        clear hab htk
        go_wp2
        go_region_held3 (fun w' => w'.cell? ⟨r, 0, none⟩ = some (.slice (some ad) n c) ∧ w'.cell? (ad.add (g * 4)) = some (.int .i64 x.id) ∧ w'.cell? ⟨(ad.add (g * 4)).block, (ad.add (g * 4)).off + 1, none⟩ = some (.int .i64 x.fr) ∧ w'.cell? ⟨(ad.add (g * 4)).block, (ad.add (g * 4)).off + 2, none⟩ = some (.int .i64 x.to) ∧ w'.cell? ⟨(ad.add (g * 4)).block, (ad.add (g * 4)).off + 3, none⟩ = some (.int .i64 x.pr) ∧ w'.cell? ⟨W.heap.size, 0, none⟩ = some (.int .i64 t.id) ∧ w'.cell? ⟨W.heap.size, 1, none⟩ = some (.int .i64 t.fr) ∧ w'.cell? ⟨W.heap.size, 2, none⟩ = some (.int .i64 t.to) ∧ w'.cell? ⟨W.heap.size, 3, none⟩ = some (.int .i64 t.pr)) (exact HC8.out _ (by repeat (first | exact HY1.out | exact Below.refl _ _ | refine Below.drew ?_)))
          ((go_at_call 36; (with_reducible refine (over_v x t false HAB _).mono ?_); rintro e u1 ⟨rfl, hd1⟩; have HY1 : Hid (Below wr.heap.size wr u1) := ((Below.refl _ _).drew).trans hd1; clear hd1))
        have hzu : wr.heap.size ≤ u1.heap.size := HY1.out.size
        go_wp2
        clear hwv hiy
        exact ⟨⟨g, v, (g : Int) - 1, t, _, rfl, by omega, by omega, rfl, rfl, by omega, HV2, HBX.out.below HY1.out hzB, HBW.out.trans (HY1.out.mono (by omega))⟩, by first | (simp [intOf]; done) | (simp [intOf]; omega)⟩
    · have hj0 : j = 0 := by omega
      obtain rfl : y = -1 := by omega
      subst hj0
      obtain ⟨ad2, x, hA2, hBx, Hx, x0, x1, x2, x3⟩ := (HR.out.below hbw).at_ hk
      obtain rfl : ad = ad2 := by injection hA2
      obtain rfl : m' = x := Hm.out.symm.trans Hx.out
      have hV0 : v = 1 + cnt (K.take k).reverse m' := HV.out
      have HV1 : Hid (v + cnt (K.drop (k + 1)) m' = dep (K.take k) m' (K.drop (k + 1))) := by rw [Hid, hV0, dep]; omega
      have ht : t = t := rfl
      obtain ⟨b0, b1, b2, b3⟩ := hbx.cells
      have f0 := hbx.free 0
      have f1 := hbx.free 1
      have f2 := hbx.free 2
      have f3 := hbx.free 3
      have HBX1 : Hid (Bx (st4 wr W.heap.size m') W.heap.size m') := st4_bx m' hbx
      have HBW1 : Hid (Below W.heap.size W (st4 wr W.heap.size m')) := st4_below m' hbw (Nat.le_refl _)
      have hwk : IntKind.i64.wrap ((k : Int) + 1) = (k : Int) + 1 := IntWalk.i64_in _ (by omega)
      clear hbx hbw hA2 hV0 HV hlt e0 e1 e2 e3 ht
      go_wp2
      clear hwk c0 b0 b1 b2 b3 f0 f1 f2 f3 x0 x1 x2 x3
      go_loopw [6, 9] (fun x6 x9 wr => ∃ (g v : Nat) (t : Mk) (w0 : World), w0 = wr ∧ k + 1 ≤ g ∧ g ≤ n ∧ x9 = .int .i64 g ∧ x6 = .int .i64 v ∧ v ≤ g ∧ Hid (v + cnt (K.drop g) t = dep (K.take k) m' (K.drop (k + 1))) ∧ Bx wr W.heap.size t ∧ Below W.heap.size W wr) (fun _ x9 _ => n - (intOf x9).toNat)
      case atStart => exact ⟨k + 1, v, m', _, rfl, Nat.le_refl _, by omega, by go_num, rfl, by omega, HV1, HBX1.out, HBW1.out⟩
      case round =>
        obtain ⟨g, v, t, wr, rfl, hkg, hgn, rfl, rfl, hv, HV, hbx, hbw⟩ := hrel
        have c0 := (hbw.cell (p := ⟨r, 0, none⟩) hr0).trans HC00.out
        have hzB := heap_lt hbx
        by_cases hlt : g < n
        · obtain ⟨ad2, x, hA2, hBx, Hx, x0, x1, x2, x3⟩ := (HR.out.below hbw).at_ (show g < n by omega)
          obtain rfl : ad = ad2 := by injection hA2
          obtain ⟨b0, b1, b2, b3⟩ := hbx.cells
          have hJ3 : (0 : Int) ≤ (g : Int) := by omega
          have hJ4 : (g : Int) < (n : Int) := by omega
          have HBW := Lib.hid hbw
          have HBX := Lib.hid hbx
          have hxl : (ad.add (g * 4)).block < wr.heap.size := by omega
          have HC8 : Hid (∀ w', Below wr.heap.size wr w' → w'.cell? ⟨r, 0, none⟩ = some (.slice (some ad) n c) ∧ w'.cell? (ad.add (g * 4)) = some (.int .i64 x.id) ∧ w'.cell? ⟨(ad.add (g * 4)).block, (ad.add (g * 4)).off + 1, none⟩ = some (.int .i64 x.fr) ∧ w'.cell? ⟨(ad.add (g * 4)).block, (ad.add (g * 4)).off + 2, none⟩ = some (.int .i64 x.to) ∧ w'.cell? ⟨(ad.add (g * 4)).block, (ad.add (g * 4)).off + 3, none⟩ = some (.int .i64 x.pr) ∧ w'.cell? ⟨W.heap.size, 0, none⟩ = some (.int .i64 t.id) ∧ w'.cell? ⟨W.heap.size, 1, none⟩ = some (.int .i64 t.fr) ∧ w'.cell? ⟨W.heap.size, 2, none⟩ = some (.int .i64 t.to) ∧ w'.cell? ⟨W.heap.size, 3, none⟩ = some (.int .i64 t.pr)) := fun w' hb => ⟨(hb.cell (p := ⟨r, 0, none⟩) (show r < wr.heap.size by omega)).trans c0, (hb.cell (p := ad.add (g * 4)) hxl).trans x0, (hb.cell (p := ⟨(ad.add (g * 4)).block, (ad.add (g * 4)).off + 1, none⟩) hxl).trans x1, (hb.cell (p := ⟨(ad.add (g * 4)).block, (ad.add (g * 4)).off + 2, none⟩) hxl).trans x2, (hb.cell (p := ⟨(ad.add (g * 4)).block, (ad.add (g * 4)).off + 3, none⟩) hxl).trans x3, (hb.cell (p := ⟨W.heap.size, 0, none⟩) hzB).trans b0, (hb.cell (p := ⟨W.heap.size, 1, none⟩) hzB).trans b1, (hb.cell (p := ⟨W.heap.size, 2, none⟩) hzB).trans b2, (hb.cell (p := ⟨W.heap.size, 3, none⟩) hzB).trans b3⟩
          have hwv : IntKind.i64.wrap ((v : Int) + 1) = (v : Int) + 1 := IntWalk.i64_in _ (by omega)
          have htk : K.drop g = x :: K.drop (g + 1) := by rw [List.drop_eq_getElem_cons (by have := HH.out.len; omega), ← getD_get, Hx.out]
          by_cases hab : abv x t = true
          · have HAB : Hid (abv x t = true) := hab
            have HV2 : Hid (v + 1 + cnt (K.drop (g + 1)) x = dep (K.take k) m' (K.drop (k + 1))) := by
              have h := HV.out
              rw [htk, cnt, if_pos hab] at h
              rw [Hid, ← h]; omega
            clear hab htk hbx hbw hA2 b0 b1 b2 b3 x0 x1 x2 x3
            go_wp2
            clear c0
            go_wp2
            go_region_held3 (fun w' => w'.cell? ⟨r, 0, none⟩ = some (.slice (some ad) n c) ∧ w'.cell? (ad.add (g * 4)) = some (.int .i64 x.id) ∧ w'.cell? ⟨(ad.add (g * 4)).block, (ad.add (g * 4)).off + 1, none⟩ = some (.int .i64 x.fr) ∧ w'.cell? ⟨(ad.add (g * 4)).block, (ad.add (g * 4)).off + 2, none⟩ = some (.int .i64 x.to) ∧ w'.cell? ⟨(ad.add (g * 4)).block, (ad.add (g * 4)).off + 3, none⟩ = some (.int .i64 x.pr) ∧ w'.cell? ⟨W.heap.size, 0, none⟩ = some (.int .i64 t.id) ∧ w'.cell? ⟨W.heap.size, 1, none⟩ = some (.int .i64 t.fr) ∧ w'.cell? ⟨W.heap.size, 2, none⟩ = some (.int .i64 t.to) ∧ w'.cell? ⟨W.heap.size, 3, none⟩ = some (.int .i64 t.pr)) (exact HC8.out _ (by repeat (first | exact HY1.out | exact Below.refl _ _ | refine Below.drew ?_)))
              ((go_at_call 36; (with_reducible refine (over_v x t true HAB _).mono ?_); rintro e u1 ⟨rfl, hd1⟩; have HY1 : Hid (Below wr.heap.size wr u1) := ((Below.refl _ _).drew).trans hd1; clear hd1))
            have hzu : wr.heap.size ≤ u1.heap.size := HY1.out.size
            obtain ⟨c0, x0, x1, x2, x3, b0, b1, b2, b3⟩ := HC8.out _ HY1.out
            have HX1 : Hid (Bx u1 W.heap.size t) := HBX.out.below HY1.out hzB
            have f0 := HX1.out.free 0
            have f1 := HX1.out.free 1
            have f2 := HX1.out.free 2
            have f3 := HX1.out.free 3
            clear HC8
            have hnB : r ≠ W.heap.size := by omega
            have hnx : (ad.add (g * 4)).block ≠ W.heap.size := by omega
            have HK9 : Hid ((st4 u1 W.heap.size x).drew.cell? ⟨r, 0, none⟩ = some (.slice (some ad) n c) ∧ (st4 u1 W.heap.size x).drew.cell? (ad.add (g * 4)) = some (.int .i64 x.id) ∧ (st4 u1 W.heap.size x).drew.cell? ⟨(ad.add (g * 4)).block, (ad.add (g * 4)).off + 1, none⟩ = some (.int .i64 x.fr) ∧ (st4 u1 W.heap.size x).drew.cell? ⟨(ad.add (g * 4)).block, (ad.add (g * 4)).off + 2, none⟩ = some (.int .i64 x.to) ∧ (st4 u1 W.heap.size x).drew.cell? ⟨(ad.add (g * 4)).block, (ad.add (g * 4)).off + 3, none⟩ = some (.int .i64 x.pr)) := ⟨(st4_cell u1 _ x ⟨r, 0, none⟩ hnB).trans c0, (st4_cell u1 _ x (ad.add (g * 4)) hnx).trans x0, (st4_cell u1 _ x ⟨(ad.add (g * 4)).block, _, none⟩ hnx).trans x1, (st4_cell u1 _ x ⟨(ad.add (g * 4)).block, _, none⟩ hnx).trans x2, (st4_cell u1 _ x ⟨(ad.add (g * 4)).block, _, none⟩ hnx).trans x3⟩
            have HK0 : Hid (u1.drew.cell? ⟨r, 0, none⟩ = some (.slice (some ad) n c) ∧ u1.drew.cell? (ad.add (g * 4)) = some (.int .i64 x.id) ∧ u1.drew.cell? ⟨(ad.add (g * 4)).block, (ad.add (g * 4)).off + 1, none⟩ = some (.int .i64 x.fr) ∧ u1.drew.cell? ⟨(ad.add (g * 4)).block, (ad.add (g * 4)).off + 2, none⟩ = some (.int .i64 x.to) ∧ u1.drew.cell? ⟨(ad.add (g * 4)).block, (ad.add (g * 4)).off + 3, none⟩ = some (.int .i64 x.pr)) := ⟨c0, x0, x1, x2, x3⟩
            go_wp2
            go_region_held3 (fun w' => w'.cell? ⟨r, 0, none⟩ = some (.slice (some ad) n c) ∧ w'.cell? (ad.add (g * 4)) = some (.int .i64 x.id) ∧ w'.cell? ⟨(ad.add (g * 4)).block, (ad.add (g * 4)).off + 1, none⟩ = some (.int .i64 x.fr) ∧ w'.cell? ⟨(ad.add (g * 4)).block, (ad.add (g * 4)).off + 2, none⟩ = some (.int .i64 x.to) ∧ w'.cell? ⟨(ad.add (g * 4)).block, (ad.add (g * 4)).off + 3, none⟩ = some (.int .i64 x.pr)) (first | exact HK9.out | exact HK0.out) (fail)
            go_wp2
            clear hwv
            exact ⟨⟨g + 1, v + 1, x, _, rfl, by omega, by omega, by go_num, by go_num, by omega, HV2, st4_bx x HX1.out, (st4_below x (HBW.out.trans (HY1.out.mono (by omega))) (Nat.le_refl _)).drew⟩, by first | (simp [intOf]; done) | (simp [intOf]; omega)⟩
          · have HAB : Hid (abv x t = false) := by simpa [Hid] using hab
            have HV2 : Hid (v + cnt (K.drop (g + 1)) t = dep (K.take k) m' (K.drop (k + 1))) := by
              have h := HV.out
              rw [htk, cnt, if_neg hab] at h
              exact h
            clear hab htk hbx hbw hA2 b0 b1 b2 b3 x0 x1 x2 x3
            go_wp2
            clear c0
            go_wp2
            go_region_held3 (fun w' => w'.cell? ⟨r, 0, none⟩ = some (.slice (some ad) n c) ∧ w'.cell? (ad.add (g * 4)) = some (.int .i64 x.id) ∧ w'.cell? ⟨(ad.add (g * 4)).block, (ad.add (g * 4)).off + 1, none⟩ = some (.int .i64 x.fr) ∧ w'.cell? ⟨(ad.add (g * 4)).block, (ad.add (g * 4)).off + 2, none⟩ = some (.int .i64 x.to) ∧ w'.cell? ⟨(ad.add (g * 4)).block, (ad.add (g * 4)).off + 3, none⟩ = some (.int .i64 x.pr) ∧ w'.cell? ⟨W.heap.size, 0, none⟩ = some (.int .i64 t.id) ∧ w'.cell? ⟨W.heap.size, 1, none⟩ = some (.int .i64 t.fr) ∧ w'.cell? ⟨W.heap.size, 2, none⟩ = some (.int .i64 t.to) ∧ w'.cell? ⟨W.heap.size, 3, none⟩ = some (.int .i64 t.pr)) (exact HC8.out _ (by repeat (first | exact HY1.out | exact Below.refl _ _ | refine Below.drew ?_)))
              ((go_at_call 36; (with_reducible refine (over_v x t false HAB _).mono ?_); rintro e u1 ⟨rfl, hd1⟩; have HY1 : Hid (Below wr.heap.size wr u1) := ((Below.refl _ _).drew).trans hd1; clear hd1))
            have hzu : wr.heap.size ≤ u1.heap.size := HY1.out.size
            go_wp2
            clear hwv
            exact ⟨⟨g + 1, v, t, _, rfl, by omega, by omega, by go_num, rfl, by omega, HV2, HBX.out.below HY1.out hzB, HBW.out.trans (HY1.out.mono (by omega))⟩, by first | (simp [intOf]; done) | (simp [intOf]; omega)⟩
        · have hgn : g = n := by omega
          subst hgn
          have hvd : v = dep (K.take k) m' (K.drop (k + 1)) := by
            have h := HV.out
            rw [List.drop_of_length_le (by have := HH.out.len; omega)] at h
            exact h
          have HBW := Lib.hid hbw
          clear hbw hbx
          go_wp2
          go_ret
          exact ⟨ret_int (by rw [hvd]), HBW.out⟩
theorem rdepth_no (W : World) (r : Nat) (A : Option Addr) (n c : Nat) (K : List Mk) (i : Int) (h : RefIn W r A n c K) (hn : n ≤ 1000) (hf : Hid (fidx K i = -1)) :
    Calls Try.prog 20 #[.pointer (some ⟨r, 0, none⟩), .int .i64 i] W fun e w' => e = .returned (.int .i64 0) ∧ Below W.heap.size W w' := by
  have HH := Lib.hid h
  clear h
  go_enter Try.func20, Try.ntmps20
  go_wp2_with (go_at_call 34; (with_reducible refine (find_any W r A n c K i (-1) hf HH.out hn).mono ?_); rintro e w' ⟨rfl, rfl⟩)
  go_ret
  exact ⟨rfl, Below.refl _ _⟩
theorem rdepth_any (W : World) (r : Nat) (A : Option Addr) (n c : Nat) (K : List Mk) (i v : Int) (hv : Hid ((depN [] K i : Int) = v)) (h : RefIn W r A n c K) (hid : Ids K) (hn : n ≤ 1000) :
    Calls Try.prog 20 #[.pointer (some ⟨r, 0, none⟩), .int .i64 i] W fun e w' => e = .returned (.int .i64 v) ∧ Below W.heap.size W w' := by
  by_cases hb : hasB K i = true
  · obtain ⟨k, m, hk, hm, hi, hf⟩ := fidx_hit hb
    have hd := DD_depN K k hk hid m hm
    rw [hi] at hd
    rw [← hv.out, hd]
    have h1 := rdepth_yes W r A n c K i k m h hn hf (by rw [← h.len]; exact hk) hm
    unfold DD
    rw [hm]
    exact h1
  · have hb' : hasB K i = false := by simpa using hb
    rw [← hv.out, depN_none _ _ [] (hasB_false hb')]
    exact rdepth_no W r A n c K i h hn (fidx_miss hb')
end Go.Proofs.Ytkibhinpbpgkeaa
