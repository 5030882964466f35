/- The walk of Depth. -/
import Derived.Test.YtkibhinpbpgkeaaK
import Derived.Deep.DeepCutAuto
namespace Go.Proofs.Ytkibhinpbpgkeaa
open Go.RowKit Go.ChangeMaps

theorem depT_pos {t : TR} {m : Mk} (hm : m ∈ t.list) : 1 ≤ depT t m := by
  cases t with
  | nil => cases hm
  | node g a l r =>
    unfold depT
    split
    · omega
    · split <;> omega
theorem depT_le (t : TR) (m : Mk) : depT t m ≤ t.size := by
  induction t with
  | nil => exact Nat.le_refl _
  | node g a l r hl hr =>
    simp only [depT, TR.size]
    split
    · omega
    · split <;> omega
theorem below_world {X w : World} {B : Nat} {t : TR} (hb : Below B X w) (h : InW X t) (hl : ∀ g ∈ t.blocks, g < B) : InW w t :=
  h.chg (F := (List.range X.heap.size).filter (B ≤ ·)) ⟨hb.os, hb.tape, hb.output, hb.size, fun k hk hn => hb.block k (by simp at hn; have := hn hk; omega)⟩ fun g hg => by
    have := hl g hg
    simp
    omega

theorem get_m (W : World) (s b : Nat) (t : TR) (m : Mk) (h : SetIn W s b t) (hm : m ∈ t.list) : Calls Try.prog 29 #[.pointer (some ⟨s, 0, none⟩), .int .i64 m.id] W fun e w' => e = .returned (.tuple #[.agg #[.int .i64 m.id, .int .i64 m.fr, .int .i64 m.to, .int .i64 m.pr], .bool true]) ∧ Below W.heap.size W w' := get_hit W s b t m h hm
theorem get_0 (W : World) (s b : Nat) (t : TR) (i : Int) (h : SetIn W s b t) (hm : ∀ x ∈ t.list, x.id ≠ i) : Calls Try.prog 29 #[.pointer (some ⟨s, 0, none⟩), .int .i64 i] W fun e w' => e = .returned (.tuple #[.agg #[.int .i64 0, .int .i64 0, .int .i64 0, .int .i64 0], .bool false]) ∧ Below W.heap.size W w' := get_miss W s b t i h hm
theorem depth_no (W : World) (s b : Nat) (t : TR) (i : Int) (h : SetIn W s b t) (hn : ∀ x ∈ t.list, x.id ≠ i) : Calls Try.prog 14 #[.pointer (some ⟨s, 0, none⟩), .int .i64 i] W fun e w' => e = .returned (.int .i64 0) ∧ Below W.heap.size W w' := by
  go_enter Try.func14, Try.ntmps14
  go_wp2_with (go_at_call 29; (with_reducible refine (get_0 _ s b t i h hn).mono ?_); rintro e w1 ⟨rfl, hb1⟩)
  go_ret
  exact ⟨rfl, hb1.alloc hb1.size _⟩

set_option maxHeartbeats 1000000 in
theorem depth_yes (W : World) (s b : Nat) (t : TR) (m : Mk) (h : SetIn W s b t) (hm : m ∈ t.list) (hlen : t.list.length ≤ 1000) : Calls Try.prog 14 #[.pointer (some ⟨s, 0, none⟩), .int .i64 m.id] W fun e w' => e = .returned (.int .i64 (depT t m)) ∧ Below W.heap.size W w' := by
  have hs : s < W.heap.size := h.lt s (by simp)
  obtain ⟨c0, c1⟩ := h.cells
  have hD : depT t m ≤ 1000 := by have := depT_le t m; rw [TR.size_list] at hlen; omega
  obtain ⟨D, HD⟩ : ∃ D, Hid (depT t m = D) := ⟨_, rfl⟩
  rw [HD.out] at hD ⊢
  have HH := Lib.hid h
  have HM := Lib.hid hm
  clear h hm hlen
  go_enter Try.func14, Try.ntmps14
  go_wp2_with (go_at_call 29; (with_reducible refine (get_m _ s b t m HH.out HM.out).mono ?_); rintro e w1 ⟨rfl, hb1⟩; have hz := hb1.size; have hs1 : s < w1.heap.size := (by omega); have d0 : w1.cell? ⟨s, 0, none⟩ = some (.pointer t.root) := (hb1.cell (p := ⟨s, 0, none⟩) hs).trans c0)
  have HB1 := Lib.hid hb1
  obtain ⟨X, hX⟩ : ∃ X, X = w1.alloc (.cells #[.int .i64 m.id, .int .i64 m.fr, .int .i64 m.to, .int .i64 m.pr] 30 (0, 0)) := ⟨_, rfl⟩
  rw [← hX]
  have hXs : X.heap.size = w1.heap.size + 1 := by rw [hX]; simp
  have HBX : Hid (Below W.heap.size W X) := by rw [Hid, hX]; exact hb1.trans ((Below.refl _ _).alloc hz _)
  have KX : X.heap[w1.heap.size]? = some (.cells #[.int .i64 m.id, .int .i64 m.fr, .int .i64 m.to, .int .i64 m.pr] 30 (0, 0)) := by rw [hX]; exact heap_new _ _
  obtain ⟨B, hB⟩ : ∃ B, w1.heap.size = B := ⟨_, rfl⟩
  rw [hB] at KX hXs hz ⊢
  have HKX := Lib.hid KX
  have x0 : X.cell? ⟨s, 0, none⟩ = some (.pointer t.root) := (HBX.out.cell (p := ⟨s, 0, none⟩) hs).trans c0
  clear d0 c0 c1 hX hB hb1 KX
  go_wp2
  go_loopw [7, 8] (fun n d wr => ∃ (u : TR) (k : Nat) (p : Option Addr) (w0 : World), w0 = wr ∧ n = .pointer p ∧ d = .int .i64 k ∧ Hid (u.root = p ∧ InW wr u ∧ Srt u ∧ m ∈ u.list ∧ k + depT u m = D + 1) ∧ 1 ≤ k ∧ k ≤ D ∧ Below X.heap.size X wr) (fun _ d _ => D + 1 - (intOf d).toNat)
  case atStart =>
    have := depT_pos HM.out
    rw [HD.out] at this
    exact ⟨t, 1, _, _, rfl, rfl, rfl, ⟨rfl, below_world HBX.out HH.out.tree HH.out.tree.lt, HH.out.srt, HM.out, by rw [HD.out]; omega⟩, Nat.le_refl _, this, Below.refl _ _⟩
  case round =>
    obtain ⟨u, k, p, wr, rfl, rfl, rfl, HU, hk1, hk2, hbx⟩ := hrel
    cases u with
    | nil => exact absurd HU.out.2.2.2.1 (by simp [TR.list])
    | node g a l r =>
      obtain ⟨hp, ⟨G, hl, hr⟩, hsu, hmu, hdu⟩ := HU.out
      have hp : p = some ⟨g, 0, none⟩ := hp.symm
      subst hp
      obtain ⟨z0, z1, z2, z3, z4, z5⟩ := ncs_cells G
      have hg := heap_lt G
      have y0 := (hbx.cell (p := ⟨B, 0, none⟩) (by simp; omega)).trans (cell_of_row X B 0 _ _ _ HKX.out)
      have y1 := (hbx.cell (p := ⟨B, 1, none⟩) (by simp; omega)).trans (cell_of_row X B 1 _ _ _ HKX.out)
      have y2 := (hbx.cell (p := ⟨B, 2, none⟩) (by simp; omega)).trans (cell_of_row X B 2 _ _ _ HKX.out)
      have y3 := (hbx.cell (p := ⟨B, 3, none⟩) (by simp; omega)).trans (cell_of_row X B 3 _ _ _ HKX.out)
      have HG := Lib.hid G
      have HBL := Lib.hid hbx
      have hBw := Nat.lt_of_lt_of_le (show B < X.heap.size by omega) hbx.size
      clear G hbx
      show Code.wp _ _ _ _ _
      by_cases he : a.id = m.id
      · have hb : (a.id != m.id) = false := by simpa using he
        have hkD : k = D := by simp only [depT, he, if_true] at hdu; omega
        subst hkD
        clear hl hr hsu hmu hdu HU
        go_wp2
        go_ret
        exact ⟨rfl, HBX.out.trans (HBL.out.mono (by omega))⟩
      · have hb : (a.id != m.id) = true := by simpa using he
        obtain ⟨sl, sr, s1, s2, _⟩ := srt_node hsu
        have hmu' := hmu
        simp only [TR.list, List.mem_append, List.mem_cons] at hmu'
        obtain ⟨v, Hv⟩ : ∃ v, Hid (ord m a = v) := ⟨_, rfl⟩
        by_cases hlt : lt m a = true
        · -- to the left
          have hv : v < 0 := by have h := Hv.out; unfold ord at h; rw [if_pos hlt] at h; omega
          have hml : m ∈ l.list := by
            rcases hmu' with h | h | h
            · exact h
            · subst h; rw [lt_irrefl] at hlt; cases hlt
            · have := lt_asymm (s2 m h); rw [hlt] at this; cases this
          have hdd : k + 1 + depT l m = D + 1 := by simp only [depT, if_neg he, if_pos hlt] at hdu; omega
          have hk3 : k + 1 ≤ D := by have := depT_pos hml; omega
          have HN := Lib.hid (And.intro hl (And.intro sl (And.intro hml hdd)))
          clear hl hr sl sr s1 s2 hmu' hml hdd hdu HU hsu hmu hlt
          go_wp2
          go_region_held3 (fun w' => w'.cell? ⟨g, 0, none⟩ = some (.int .i64 a.id) ∧ w'.cell? ⟨g, 1, none⟩ = some (.int .i64 a.fr) ∧ w'.cell? ⟨g, 2, none⟩ = some (.int .i64 a.to) ∧ w'.cell? ⟨g, 3, none⟩ = some (.int .i64 a.pr) ∧ w'.cell? ⟨B, 0, none⟩ = some (.int .i64 m.id) ∧ w'.cell? ⟨B, 1, none⟩ = some (.int .i64 m.fr) ∧ w'.cell? ⟨B, 2, none⟩ = some (.int .i64 m.to) ∧ w'.cell? ⟨B, 3, none⟩ = some (.int .i64 m.pr)) (simp [go_sem, *])
            (first
              | (go_at_call 30; (with_reducible refine (order_v m a v Hv _).mono ?_); rintro e w2 ⟨rfl, hb1⟩; have HC := Lib.hid (((Below.refl _ _).drew).trans hb1 : Below wr.heap.size wr w2); have hcl1 := cells_of HC.out; clear hb1))
          have HG2 := (HC.out.block g hg).trans HG.out
          have z4' := (ncs_cells HG2).2.2.2.2.1
          have z5' := (ncs_cells HG2).2.2.2.2.2
          clear hcl1 HG2 z4 z5
          go_wp2
          go_roundw
          case rel => exact ⟨l, k + 1, _, _, rfl, rfl, by go_num, ⟨rfl, below_world HC.out HN.out.1 HN.out.1.lt, HN.out.2⟩, by omega, hk3, HBL.out.trans (HC.out.mono HBL.out.size)⟩
          case measure => simp [intOf]; omega
        · -- to the right
          have hv : ¬ v < 0 := by have h := Hv.out; unfold ord at h; rw [if_neg hlt] at h; (split at h <;> omega)
          have hml : m ∈ r.list := by
            rcases hmu' with h | h | h
            · exact absurd (s1 m h) hlt
            · exact absurd (congrArg Mk.id h).symm he
            · exact h
          have hdd : k + 1 + depT r m = D + 1 := by simp only [depT, if_neg he, if_neg hlt] at hdu; omega
          have hk3 : k + 1 ≤ D := by have := depT_pos hml; omega
          have HN := Lib.hid (And.intro hr (And.intro sr (And.intro hml hdd)))
          clear hl hr sl sr s1 s2 hmu' hml hdd hdu HU hsu hmu hlt
          go_wp2
          go_region_held3 (fun w' => w'.cell? ⟨g, 0, none⟩ = some (.int .i64 a.id) ∧ w'.cell? ⟨g, 1, none⟩ = some (.int .i64 a.fr) ∧ w'.cell? ⟨g, 2, none⟩ = some (.int .i64 a.to) ∧ w'.cell? ⟨g, 3, none⟩ = some (.int .i64 a.pr) ∧ w'.cell? ⟨B, 0, none⟩ = some (.int .i64 m.id) ∧ w'.cell? ⟨B, 1, none⟩ = some (.int .i64 m.fr) ∧ w'.cell? ⟨B, 2, none⟩ = some (.int .i64 m.to) ∧ w'.cell? ⟨B, 3, none⟩ = some (.int .i64 m.pr)) (simp [go_sem, *])
            (first
              | (go_at_call 30; (with_reducible refine (order_v m a v Hv _).mono ?_); rintro e w2 ⟨rfl, hb1⟩; have HC := Lib.hid (((Below.refl _ _).drew).trans hb1 : Below wr.heap.size wr w2); have hcl1 := cells_of HC.out; clear hb1))
          have HG2 := (HC.out.block g hg).trans HG.out
          have z4' := (ncs_cells HG2).2.2.2.2.1
          have z5' := (ncs_cells HG2).2.2.2.2.2
          clear hcl1 HG2 z4 z5
          go_wp2
          go_roundw
          case rel => exact ⟨r, k + 1, _, _, rfl, rfl, by go_num, ⟨rfl, below_world HC.out HN.out.1 HN.out.1.lt, HN.out.2⟩, by omega, hk3, HBL.out.trans (HC.out.mono HBL.out.size)⟩
          case measure => simp [intOf]; omega
end Go.Proofs.Ytkibhinpbpgkeaa
