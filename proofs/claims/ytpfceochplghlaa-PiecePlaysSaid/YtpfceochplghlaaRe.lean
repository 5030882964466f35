/- The reference's Splice: what is refused; what holds on the way. -/
import Derived.Test.YtpfceochplghlaaRd
import Derived.Test.YtpfceochplghlaaD
namespace Go.Proofs.Ytpfceochplghlaa
open Go.RowKit
attribute [local go_sem ↓] Go.wp_at_zero Go.wp_at_succ

theorem rlen_v (W : World) (r : Nat) (G : List Nat) (T : Tb) (l : Nat) (hl : Hid (plen T.ps = l)) (h : RefIn W r G T) : Calls Try.prog 41 #[.pointer (some ⟨r, 0, none⟩)] W fun e w' => e = .returned (.int .i64 l) ∧ W = w' := by
  have h1 := rlen_any W r G T h
  rwa [hl.out] at h1
theorem rsplice_arg (W : World) (r : Nat) (G : List Nat) (T : Tb) (a k : Int) (A : Option Addr) (m c : Nat) (h : RefIn W r G T) (h0 : Hid (thereB (plen T.ps) a k = false)) : Calls Try.prog 21 #[.pointer (some ⟨r, 0, none⟩), .int .i64 a, .int .i64 k, .slice A m c] W fun e w' => e = .returned (.int .i64 2) ∧ W = w' := by
  have H := Lib.hid h
  have hl := h.ok.len
  obtain ⟨l, hll⟩ : ∃ l, plen T.ps = l := ⟨_, rfl⟩
  rw [hll] at h0 hl
  have HLL := Lib.hid hll
  clear h hll
  go_enter Try.func21, Try.ntmps21
  go_wp2_with (first | (go_at_call 41; (with_reducible refine (rlen_v W r G T l HLL H.out).mono ?_); rintro e w' ⟨rfl, rfl⟩) | (go_at_call 23; (with_reducible refine (within_v l a k false h0 (by omega) _).mono ?_); rintro e w' ⟨rfl, rfl⟩))
  go_ret
  exact ⟨rfl, rfl⟩
theorem rsplice_form (W : World) (r : Nat) (G : List Nat) (T : Tb) (a k : Int) (A : Option Addr) (m c B : Nat) (zs : List Int) (h : RefIn W r G T) (h0 : Hid (thereB (plen T.ps) a k = true)) (h1 : Hid (mayB zs = false)) (hr : Rds W B 1 A m (zs.map (Value.int .i32))) (hm : m ≤ 9223372036854775807) :
    Calls Try.prog 21 #[.pointer (some ⟨r, 0, none⟩), .int .i64 a, .int .i64 k, .slice A m c] W fun e w' => e = .returned (.int .i64 1) ∧ W = w' := by
  have H := Lib.hid h
  have HR := Lib.hid hr
  have hl := h.ok.len
  obtain ⟨l, hll⟩ : ∃ l, plen T.ps = l := ⟨_, rfl⟩
  rw [hll] at h0 hl
  have HLL := Lib.hid hll
  clear h hr hll
  go_enter Try.func21, Try.ntmps21
  go_wp2_with (first | (go_at_call 41; (with_reducible refine (rlen_v W r G T l HLL H.out).mono ?_); rintro e w' ⟨rfl, rfl⟩) | (go_at_call 23; (with_reducible refine (within_v l a k true h0 (by omega) _).mono ?_); rintro e w' ⟨rfl, rfl⟩) | (go_at_call 39; (with_reducible refine (rmay_v A m c B zs false h1 W HR.out hm).mono ?_); rintro e w' ⟨rfl, rfl⟩))
  go_ret
  exact ⟨rfl, rfl⟩
theorem rsplice_full (W : World) (r : Nat) (G : List Nat) (T : Tb) (a k : Nat) (A : Option Addr) (m c B : Nat) (zs : List Int) (h : RefIn W r G T) (h0 : Hid (thereB (plen T.ps) a k = true)) (h1 : Hid (mayB zs = true)) (h2 : roomB (plen T.ps) k T.add.length m = false) (hk : k ≤ plen T.ps) (hr : Rds W B 1 A m (zs.map (Value.int .i32))) (hm : m ≤ 9223372036854775807) :
    Calls Try.prog 21 #[.pointer (some ⟨r, 0, none⟩), .int .i64 a, .int .i64 k, .slice A m c] W fun e w' => e = .returned (.int .i64 3) ∧ W = w' := by
  have H := Lib.hid h
  have HR := Lib.hid hr
  have hok := h.ok
  have hl := hok.len
  have had := hok.add
  obtain ⟨A0, n0, c0, A1, n1, c1, A2, n2, c2, hat, rfl, _⟩ := h
  obtain ⟨z0, z1, z2⟩ := hat.cells
  have hn1 := hat.lens.2.1
  rw [hn1] at h2 had
  obtain ⟨l, hll⟩ : ∃ l, plen T.ps = l := ⟨_, rfl⟩
  rw [hll] at hl h2 hk h0
  have HLL := Lib.hid hll
  simp only [roomB, decide_eq_false_iff_not] at h2
  have hw1 : IntKind.i64.wrap ((l : Int) - k) = ((l - k : Nat) : Int) := by rw [show (l : Int) - k = ((l - k : Nat) : Int) from by omega]; exact IntWalk.i64_in _ (by omega)
  obtain ⟨d, hd⟩ : ∃ d, l - k = d := ⟨_, rfl⟩
  rw [hd] at hw1 h2
  have hw2 : IntKind.i64.wrap (1000 - (d : Int)) = 1000 - (d : Int) := IntWalk.i64_in _ (by omega)
  have hw3 : IntKind.i64.wrap (20000 - (n1 : Int)) = 20000 - (n1 : Int) := IntWalk.i64_in _ (by omega)
  clear hr hok hat hn1 hll z0 z2 hd
  by_cases hf : 1000 - (d : Int) < (m : Int)
  · clear h2
    go_enter Try.func21, Try.ntmps21
    go_wp2_with (first | (go_at_call 41; (with_reducible refine (rlen_v W r _ T l HLL H.out).mono ?_); rintro e w' ⟨rfl, rfl⟩) | (go_at_call 23; (with_reducible refine (within_v l a k true h0 (by omega) _).mono ?_); rintro e w' ⟨rfl, rfl⟩) | (go_at_call 39; (with_reducible refine (rmay_v A m c B zs true h1 W HR.out hm).mono ?_); rintro e w' ⟨rfl, rfl⟩))
    go_ret
    exact ⟨rfl, rfl⟩
  · have hg : 20000 - (n1 : Int) < (m : Int) := by omega
    clear h2
    go_enter Try.func21, Try.ntmps21
    go_wp2_with (first | (go_at_call 41; (with_reducible refine (rlen_v W r _ T l HLL H.out).mono ?_); rintro e w' ⟨rfl, rfl⟩) | (go_at_call 23; (with_reducible refine (within_v l a k true h0 (by omega) _).mono ?_); rintro e w' ⟨rfl, rfl⟩) | (go_at_call 39; (with_reducible refine (rmay_v A m c B zs true h1 W HR.out hm).mono ?_); rintro e w' ⟨rfl, rfl⟩))
    go_ret
    exact ⟨rfl, rfl⟩
theorem rsplice_zero (W : World) (r : Nat) (G : List Nat) (T : Tb) (a : Nat) (A : Option Addr) (c : Nat) (h : RefIn W r G T) (ha : a ≤ plen T.ps) :
    Calls Try.prog 21 #[.pointer (some ⟨r, 0, none⟩), .int .i64 a, .int .i64 0, .slice A 0 c] W fun e w' => e = .returned (.int .i64 0) ∧ W = w' := by
  have H := Lib.hid h
  have hok := h.ok
  have hl := hok.len
  have had := hok.add
  obtain ⟨A0, n0, c0, A1, n1, c1, A2, n2, c2, hat, rfl, _⟩ := h
  obtain ⟨z0, z1, z2⟩ := hat.cells
  have hn1 := hat.lens.2.1
  rw [hn1] at had
  have h0 : Hid (thereB (plen T.ps) a 0 = true) := by simp only [Hid, thereB, decide_eq_true_eq]; omega
  have h1 : Hid (mayB [] = true) := rfl
  have HR : Hid (Rds W 0 1 A 0 (([] : List Int).map (Value.int .i32))) := Rds.nil _ _ _ _
  obtain ⟨l, hll⟩ : ∃ l, plen T.ps = l := ⟨_, rfl⟩
  rw [hll] at hl h0
  have HLL := Lib.hid hll
  have hw1 : IntKind.i64.wrap (l : Int) = (l : Int) := IntWalk.i64_in _ (by omega)
  have hw2 : IntKind.i64.wrap (1000 - (l : Int)) = 1000 - (l : Int) := IntWalk.i64_in _ (by omega)
  have hw3 : IntKind.i64.wrap (20000 - (n1 : Int)) = 20000 - (n1 : Int) := IntWalk.i64_in _ (by omega)
  have hf : ¬ 1000 - (l : Int) < 0 := by omega
  have hg : ¬ 20000 - (n1 : Int) < 0 := by omega
  clear hok hat hn1 hll z0 z2 ha
  go_enter Try.func21, Try.ntmps21
  go_wp2_with (first | (go_at_call 41; (with_reducible refine (rlen_v W r _ T l HLL H.out).mono ?_); rintro e w' ⟨rfl, rfl⟩) | (go_at_call 23; (with_reducible refine (within_v l a 0 true h0 (by omega) _).mono ?_); rintro e w' ⟨rfl, rfl⟩) | (go_at_call 39; (with_reducible refine (rmay_v A 0 c 0 [] true h1 W HR.out (by omega)).mono ?_); rintro e w' ⟨rfl, rfl⟩))
  go_ret
  exact ⟨rfl, rfl⟩

/-- What a splice leaves. -/
def RSplPost (W : World) (r : Nat) (G : List Nat) (T : Tb) (e : Ending) (w' : World) : Prop :=
  e = .returned (.int .i64 0) ∧ ∃ G', RefIn w' r G' T ∧ (∀ g ∈ G', g ∈ G ∨ W.heap.size ≤ g) ∧ Chg [r] W w'
/-- On the way: the front pieces and the end pieces lie in rows of the call's own. -/
structure MidAt (W Y : World) (r : Nat) (A0 : Option Addr) (n0 c0 : Nat) (A3 : Option Addr) (n3 c3 : Nat) (A2 : Option Addr) (n2 c2 : Nat) (fs ad : List Int) (A9 : Option Addr) (n9 c9 : Nat) (P : List Pc) (B6 : Option Addr) (m6 d6 : Nat) (Q : List Pc) : Prop where
  top : Y.heap[r]? = some (.cells #[.slice A0 n0 c0, .slice A3 n3 c3, .slice A2 n2 c2] 66 (0, 0))
  r0 : Y.ownsRow 0 21 1 (.slice A0 n0 c0) n0 (fs.map (Value.int .i32))
  r1 : Y.ownsRow 0 21 1 (.slice A3 n3 c3) n3 (ad.map (Value.int .i32))
  rp : PRow W.heap.size Y A9 n9 c9 P
  rq : PRow W.heap.size Y B6 m6 d6 Q
  chg : Chg [r] W Y
  lt0 : ∀ g ∈ blk A0, g < W.heap.size
  nr0 : r ∉ blk A0
  ge3 : ∀ g ∈ blk A3, W.heap.size ≤ g
  lr : r < W.heap.size
  ap : ∀ g ∈ blk A9, g ∉ blk B6 ∧ g ∉ blk A3
theorem own_set2b {W : World} {base n c k g : Nat} {L : List Pc} (h : W.ownsRow base 53 3 (.slice (some ⟨g, 0, none⟩) n c) n (pcs L)) (hk : k < n) (v : Nat) : (W.setCell ⟨g, k * 3 + 2, none⟩ (.int .i64 v)).ownsRow base 53 3 (.slice (some ⟨g, 0, none⟩) n c) n (pcs (L.take k ++ [⟨(L.getD k pc0).add, (L.getD k pc0).fr, v⟩] ++ L.drop (k + 1))) := by
  have hL : L.length = n := by have h1 := h.1; rw [pcs_len] at h1; omega
  rcases own_row h with ⟨_, h0, _⟩ | ⟨g', cur, e, hb, hg, hl, hnc, hm, ht⟩
  · omega
  · injection e with e
    injection e with e
    subst e
    have hs := heap_setCell_same W g (k * 3 + 2) cur.toArray 53 (.int .i64 v) hg
    refine own_mk (cur := cur.set (k * 3 + 2) (.int .i64 v)) hb (by simpa using hs) (by simpa using hl) hnc hm ?_
    rw [List.take_set, ht, pcs_set2 L k v (by omega)]
section
variable {W Y Z : World} {r n0 c0 n3 c3 n2 c2 n9 c9 m6 d6 : Nat} {A0 A2 A3 A9 B6 : Option Addr} {fs ad : List Int} {P Q : List Pc}
theorem MidAt.below (h : MidAt W Y r A0 n0 c0 A3 n3 c3 A2 n2 c2 fs ad A9 n9 c9 P B6 m6 d6 Q) (hb : Below Y.heap.size Y Z) : MidAt W Z r A0 n0 c0 A3 n3 c3 A2 n2 c2 fs ad A9 n9 c9 P B6 m6 d6 Q where
  top := (hb.block r (Array.getElem?_eq_some_iff.1 h.top).1).trans h.top
  r0 := own_below h.r0 hb fun k hk => (h.r0.lt k hk).2
  r1 := own_below h.r1 hb fun k hk => (h.r1.lt k hk).2
  rp := own_below h.rp hb fun k hk => (h.rp.lt k hk).2
  rq := own_below h.rq hb fun k hk => (h.rq.lt k hk).2
  chg := h.chg.trans (Chg.of_below hb)
  lt0 := h.lt0
  nr0 := h.nr0
  ge3 := h.ge3
  lr := h.lr
  ap := h.ap
/-- The front row has turned. -/
theorem MidAt.front {A' : Option Addr} {n' c' : Nat} {P' : List Pc} (h : MidAt W Y r A0 n0 c0 A3 n3 c3 A2 n2 c2 fs ad A9 n9 c9 P B6 m6 d6 Q) (hc : Chg (blk A9) Y Z) (ho : PRow W.heap.size Z A' n' c' P') (hf : ∀ g ∈ blk A', g ∈ blk A9 ∨ Y.heap.size ≤ g) : MidAt W Z r A0 n0 c0 A3 n3 c3 A2 n2 c2 fs ad A' n' c' P' B6 m6 d6 Q where
  top := (hc.block r (Array.getElem?_eq_some_iff.1 h.top).1 fun hm => by have := blk_ge h.rp (Nat.le_refl _) r hm; have := h.lr; omega).trans h.top
  r0 := own_keep h.r0 hc fun g hg hm => by have := blk_ge h.rp (Nat.le_refl _) g hm; have := h.lt0 g hg; omega
  r1 := own_keep h.r1 hc fun g hg hm => (h.ap g hm).2 hg
  rp := ho
  rq := own_keep h.rq hc fun g hg hm => (h.ap g hm).1 hg
  chg := chg_more h.chg hc fun g hg => .inr (blk_ge h.rp (Nat.le_refl _) g hg)
  lt0 := h.lt0
  nr0 := h.nr0
  ge3 := h.ge3
  lr := h.lr
  ap := fun g hg => by
    rcases hf g hg with h1 | h1
    · exact h.ap g h1
    · exact ⟨fun hm => by have := blk_lt h.rq g hm; omega, fun hm => by have := blk_lt h.r1 g hm; omega⟩
/-- The pieces are laid into the table. -/
theorem MidAt.done {T : Tb} {G : List Nat} (h : MidAt W Y r A0 n0 c0 A3 n3 c3 A2 n2 c2 fs ad A9 n9 c9 P B6 m6 d6 Q) (hT : T = ⟨fs, ad, P⟩) (hok : T.Ok) (hG : r ∈ G ∧ ∀ g ∈ blk A0, g ∈ G) : RSplPost W r G T (.returned (.int .i64 0)) (Y.setCell ⟨r, 2, none⟩ (.slice A9 n9 c9)) := by
  subst hT
  have hcg : Chg [r] Y (Y.setCell ⟨r, 2, none⟩ (.slice A9 n9 c9)) := (Chg.refl _ _).setCell (.inl (by simp)) _
  have hn9 : ∀ g ∈ blk A9, g ∉ [r] := fun g hg hm => by have := blk_ge h.rp (Nat.le_refl _) g hg; have := h.lr; simp at hm; omega
  have hn3 : ∀ g ∈ blk A3, g ∉ [r] := fun g hg hm => by have := h.ge3 g hg; have := h.lr; simp at hm; omega
  have hn0 : ∀ g ∈ blk A0, g ∉ [r] := fun g hg hm => by simp at hm; subst hm; exact h.nr0 hg
  refine ⟨rfl, _, ⟨A0, n0, c0, A3, n3, c3, A9, n9, c9, ⟨heap_setCell_same Y r 2 _ _ _ h.top, own_keep h.r0 hcg hn0, own_keep h.r1 hcg hn3, own_lower (own_keep h.rp hcg hn9) (Nat.zero_le _), fun hm => ?_⟩, rfl, hok⟩, fun g hg => ?_, h.chg.trans hcg⟩
  · simp only [List.mem_append] at hm
    rcases hm with (hm | hm) | hm
    · exact h.nr0 hm
    · exact hn3 r hm (by simp)
    · exact hn9 r hm (by simp)
  · simp only [List.mem_cons, List.mem_append] at hg
    rcases hg with rfl | (hg | hg) | hg
    · exact .inl hG.1
    · exact .inl (hG.2 g hg)
    · exact .inr (h.ge3 g hg)
    · exact .inr (blk_ge h.rp (Nat.le_refl _) g hg)
end
end Go.Proofs.Ytpfceochplghlaa
