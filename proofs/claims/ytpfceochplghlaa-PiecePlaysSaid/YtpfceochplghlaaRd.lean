/- The walk of split. -/
import Derived.Test.YtpfceochplghlaaRa
namespace Go.Proofs.Ytpfceochplghlaa
open Go.RowKit
attribute [local go_sem ↓] Go.wp_at_zero Go.wp_at_succ

/-- A piece's front, and what is behind it. -/
def hdP (p : Pc) (x : Nat) : List Pc := if 0 < min x p.ln then [⟨p.add, p.fr, min x p.ln⟩] else []
def tlP (p : Pc) (x : Nat) : List Pc := if min x p.ln < p.ln then [⟨p.add, p.fr + min x p.ln, p.ln - min x p.ln⟩] else []
theorem hdP_zero (p : Pc) : hdP p 0 = [] := by simp [hdP]
theorem tlP_zero (p : Pc) (h : 0 < p.ln) : tlP p 0 = [p] := by simp [tlP, h]
theorem hdP_mid (p : Pc) (x : Nat) (h : 0 < x) (h2 : x < p.ln) : hdP p x = [⟨p.add, p.fr, x⟩] := by simp [hdP, Nat.min_eq_left (Nat.le_of_lt h2), h]
theorem tlP_mid (p : Pc) (x : Nat) (h2 : x < p.ln) : tlP p x = [⟨p.add, p.fr + x, p.ln - x⟩] := by simp [tlP, Nat.min_eq_left (Nat.le_of_lt h2), h2]
theorem hdP_all (p : Pc) (x : Nat) (h : 0 < p.ln) (h2 : p.ln ≤ x) : hdP p x = [p] := by simp [hdP, Nat.min_eq_right h2, h]
theorem tlP_all (p : Pc) (x : Nat) (h2 : p.ln ≤ x) : tlP p x = [] := by simp [tlP, Nat.min_eq_right h2]
theorem cutP_snoc (p : Pc) (hp : 0 < p.ln) : ∀ (L : List Pc) (a : Nat), (∀ q ∈ L, 0 < q.ln) → cutP (L ++ [p]) a = ((cutP L a).1 ++ hdP p (a - plen L), (cutP L a).2 ++ tlP p (a - plen L)) := by
  intro L
  induction L with
  | nil =>
    intro a _
    rw [plen_nil, Nat.sub_zero]
    simp only [List.nil_append, cutP]
    by_cases h0 : a = 0
    · rw [if_pos h0, h0, hdP_zero, tlP_zero p hp]
    · rw [if_neg h0]
      by_cases h1 : a < p.ln
      · rw [if_pos h1, hdP_mid p a (by omega) h1, tlP_mid p a h1]
      · rw [if_neg h1, hdP_all p a hp (by omega), tlP_all p a (by omega)]
  | cons q L ih =>
    intro a h
    rw [plen_cons]
    simp only [List.cons_append, cutP]
    by_cases h0 : a = 0
    · rw [if_pos h0, if_pos h0, h0, Nat.zero_sub, hdP_zero, tlP_zero p hp]
      rfl
    · rw [if_neg h0, if_neg h0]
      by_cases h1 : a < q.ln
      · rw [if_pos h1, if_pos h1, show a - (q.ln + plen L) = 0 from by omega, hdP_zero, tlP_zero p hp]
        rfl
      · rw [if_neg h1, if_neg h1, ih (a - q.ln) fun x hx => h x (by simp [hx]), show a - (q.ln + plen L) = a - q.ln - plen L from by omega]
        rfl
theorem cutP_count : ∀ (L : List Pc) (a : Nat), (cutP L a).1.length ≤ L.length ∧ (cutP L a).2.length ≤ L.length := by
  intro L
  induction L with
  | nil => intro a; simp [cutP]
  | cons q L ih =>
    intro a
    simp only [cutP]
    split
    · simp
    · split
      · simp
      · have := ih (a - q.ln)
        simp only [List.length_cons]
        omega
/-- A row of pieces of the call's own. -/
def PRow (N : Nat) (w : World) (A : Option Addr) (n c : Nat) (L : List Pc) : Prop := w.ownsRow N 53 3 (.slice A n c) n (pcs L)
def SplitInv (N : Nat) (w : World) (A : Option Addr) (n c : Nat) (L : List Pc) (B : Option Addr) (m d : Nat) (M : List Pc) : Prop :=
  PRow N w A n c L ∧ PRow N w B m d M ∧ (∀ g ∈ blk A, g ∉ blk B)
/-- One piece more in the first row. -/
theorem split_fst {N : Nat} {w0 w w' : World} {A A' B : Option Addr} {n c c' m d : Nat} {L M : List Pc} {x : List Pc} (h : SplitInv N w0 A n c L B m d M) (hb : Below w0.heap.size w0 w) (hg : w.grownBy w' (Value.slice A n c).ownBlock) (ho : PRow N w' A' (n + 1) c' (L ++ x)) (hat : (Value.slice A' (n + 1) c').ownBlock = (Value.slice A n c).ownBlock ∨ (Value.slice A' (n + 1) c').ownBlock = some w.heap.size) : SplitInv N w' A' (n + 1) c' (L ++ x) B m d M := by
  obtain ⟨h1, h2, h3⟩ := h
  refine ⟨ho, ?_, fun g hg' hB => ?_⟩
  · exact own_keep (own_below h2 hb fun k hk => (h2.lt k hk).2) (Chg.of_grown hg) fun g hg' hA => h3 g hA hg'
  · rcases blk_own hat g hg' with h | h
    · exact h3 g h hB
    · have := blk_lt h2 g hB; have := hb.size; omega
theorem split_snd {N : Nat} {w0 w w' : World} {A B B' : Option Addr} {n c m d d' : Nat} {L M : List Pc} {x : List Pc} (h : SplitInv N w0 A n c L B m d M) (hb : Below w0.heap.size w0 w) (hg : w.grownBy w' (Value.slice B m d).ownBlock) (ho : PRow N w' B' (m + 1) d' (M ++ x)) (hat : (Value.slice B' (m + 1) d').ownBlock = (Value.slice B m d).ownBlock ∨ (Value.slice B' (m + 1) d').ownBlock = some w.heap.size) : SplitInv N w' A n c L B' (m + 1) d' (M ++ x) := by
  obtain ⟨h1, h2, h3⟩ := h
  refine ⟨?_, ho, fun g hg' hB => ?_⟩
  · exact own_keep (own_below h1 hb fun k hk => (h1.lt k hk).2) (Chg.of_grown hg) fun g hg' hB => h3 g hg' hB
  · rcases blk_own hat g hB with h | h
    · exact h3 g hg' h
    · have := blk_lt h1 g hg'; have := hb.size; omega
theorem rds_pc {w : World} {q : Nat} {p : Pc} (h : w.heap[q]? = some (.cells #[.bool p.add, .int .i64 p.fr, .int .i64 p.ln] 53 (0, 0))) : Rds w w.heap.size 3 (some ⟨q, 0, none⟩) 1 (pcs [p]) :=
  Rds.of_own (base := 0) (e := 53) (c := 1) (own_mk (cur := [.bool p.add, .int .i64 p.fr, .int .i64 p.ln]) (Nat.zero_le _) h rfl (Nat.le_refl _) (by simp [maxLen]) rfl)

theorem rds_pc2 (w : World) (o : Obj) (pa : Bool) (f l : Nat) : Rds ((w.alloc o).alloc (.cells #[.bool pa, .int .i64 f, .int .i64 l] 53 (0, 0))) ((w.alloc o).alloc (.cells #[.bool pa, .int .i64 f, .int .i64 l] 53 (0, 0))).heap.size 3 (some ⟨w.heap.size + 1, 0, none⟩) 1 (pcs [⟨pa, f, l⟩]) := by
  have h := heap_alloc_new (w.alloc o) (.cells #[.bool pa, .int .i64 f, .int .i64 l] 53 (0, 0))
  rw [show (w.alloc o).heap.size = w.heap.size + 1 from by simp] at h
  exact rds_pc (p := ⟨pa, f, l⟩) h
theorem rds_pc1 (w : World) (pa : Bool) (f l : Nat) : Rds (w.alloc (.cells #[.bool pa, .int .i64 f, .int .i64 l] 53 (0, 0))) (w.alloc (.cells #[.bool pa, .int .i64 f, .int .i64 l] 53 (0, 0))).heap.size 3 (some ⟨w.heap.size, 0, none⟩) 1 (pcs [⟨pa, f, l⟩]) :=
  rds_pc (p := ⟨pa, f, l⟩) (heap_alloc_new _ _)
theorem box_keep {w w5 : World} {pa : Bool} {f l : Int} {o : Obj} {v : Value} (hg : ((w.alloc (.cells #[.bool pa, .int .i64 f, .int .i64 l] 53 (0, 0))).alloc o).grownBy w5 v.ownBlock) (hv : ∀ k, v.ownBlock = some k → k < w.heap.size) :
    w5.cell? ⟨w.heap.size, 0, none⟩ = some (.bool pa) ∧ w5.cell? ⟨w.heap.size, 1, none⟩ = some (.int .i64 f) ∧ w5.cell? ⟨w.heap.size, 2, none⟩ = some (.int .i64 l) := by
  have h0 : ((w.alloc (.cells #[.bool pa, .int .i64 f, .int .i64 l] 53 (0, 0))).alloc o).heap[w.heap.size]? = some (.cells #[.bool pa, .int .i64 f, .int .i64 l] 53 (0, 0)) := (((Below.refl _ _).alloc (Nat.le_refl _) o).block _ (by simp)).trans (heap_alloc_new _ _)
  have h1 : w5.heap[w.heap.size]? = some (.cells #[.bool pa, .int .i64 f, .int .i64 l] 53 (0, 0)) := (hg.block _ (by simp; omega) fun e => by have := hv _ e.symm; omega).trans h0
  exact ⟨cell_of_row w5 _ 0 _ _ _ h1, cell_of_row w5 _ 1 _ _ _ h1, cell_of_row w5 _ 2 _ _ _ h1⟩

set_option maxRecDepth 100000 in
set_option maxHeartbeats 2000000 in
theorem split_any (W : World) (A : Option Addr) (n c a : Nat) (L : List Pc) (h : W.ownsRow 0 53 3 (.slice A n c) n (pcs L)) (hpos : ∀ p ∈ L, 0 < p.ln) (hln : plen L ≤ 1000) (hfr : ∀ p ∈ L, p.fr + p.ln ≤ 20000) (ha : a ≤ 1000) :
    Calls Try.prog 42 #[.slice A n c, .int .i64 a] W fun e w' => ∃ A1 n1 c1 A2 n2 c2, e = .returned (.tuple #[.slice A1 n1 c1, .slice A2 n2 c2]) ∧ SplitInv W.heap.size w' A1 n1 c1 (cutP L a).1 A2 n2 c2 (cutP L a).2 ∧ Below W.heap.size W w' := by
  obtain ⟨i0, hi0, hz0, hz1, hz2⟩ := info_parts info53
  have HO := Lib.hid h
  have HL : Hid (L.length = n) := by have h1 := h.1; rw [pcs_len] at h1; show _ = _; omega
  have hn : n ≤ 1000 := by have h1 := count_le hpos; have h3 := HL.out; omega
  have HPOS := Lib.hid hpos
  have HFR := Lib.hid hfr
  clear h hpos hfr
  go_enter Try.func42, Try.ntmps42
  go_wp2
  go_loopw [1, 6, 7, 8] (fun x1 x6 x7 x8 wr => ∃ (k : Nat) (z : Int) (A6 : Option Addr) (m6 c6 : Nat) (B7 : Option Addr) (m7 c7 : Nat) (w0 : World), w0 = wr ∧ k ≤ n ∧ x8 = .int .i64 k ∧ x1 = .int .i64 z ∧ x6 = .slice A6 m6 c6 ∧ x7 = .slice B7 m7 c7 ∧ Hid (z = (a : Int) - (plen (L.take k) : Nat)) ∧ Hid (SplitInv W.heap.size wr A6 m6 c6 (cutP (L.take k) a).1 B7 m7 c7 (cutP (L.take k) a).2) ∧ Hid (Below W.heap.size W wr)) (fun _ _ _ x8 _ => n - (intOf x8).toNat)
  case atStart => exact ⟨0, a, none, 0, 0, none, 0, 0, _, rfl, Nat.zero_le _, rfl, rfl, rfl, rfl, by simp [Hid, plen], ⟨World.ownsRow_nil _ _ _ _, World.ownsRow_nil _ _ _ _, by simp [blk]⟩, Below.refl _ _⟩
  case round =>
    obtain ⟨k, z, A6, m6, c6, B7, m7, c7, wr, rfl, hk, rfl, rfl, rfl, rfl, HZ, HI, HB⟩ := hrel
    by_cases hlt : k < n
    · obtain ⟨g, p, rfl, hg, hpm, HP, y0, y1, y2⟩ := prow_at (own_below HO.out HB.out (fun k hk => (HO.out.lt k hk).2)) hlt
      have hpl := HPOS.out p hpm
      have hpf := HFR.out p hpm
      have htk := take_getDp (L := L) (k := k) (by rw [HL.out]; exact hlt) HP.out
      have HSN := Lib.hid (cutP_snoc p hpl (L.take k) a fun q hq => HPOS.out q (List.mem_of_mem_take hq))
      rw [← htk] at HSN
      have HTK : Hid (plen (L.take (k + 1)) = plen (L.take k) + p.ln) := by show _ = _; rw [htk, plen_append, plen_cons, plen_nil]; rfl
      have HC6 : Hid (m6 ≤ 1000) := by have h1 := HI.out.1.1; rw [pcs_len] at h1; have h2 := (cutP_count (L.take k) a).1; rw [List.length_take] at h2; show m6 ≤ 1000; omega
      have HC7 : Hid (m7 ≤ 1000) := by have h1 := HI.out.2.1.1; rw [pcs_len] at h1; have h2 := (cutP_count (L.take k) a).2; rw [List.length_take] at h2; show m7 ≤ 1000; omega
      obtain ⟨pa, pf, pl⟩ := p
      simp only at y0 y1 y2 hpl hpf HTK
      have hJ1 : (0 : Int) ≤ (k : Int) ∧ (k : Int) < (n : Int) := by omega
      obtain ⟨hJ1a, hJ1b⟩ := hJ1
      have hsle : plen (L.take k) + pl ≤ 1000 := by have h1 := plen_take_le L (k + 1); have h2 := HTK.out; omega
      obtain ⟨s, hs⟩ : ∃ s, plen (L.take k) = s := ⟨_, rfl⟩
      rw [hs] at HZ HSN HTK hsle
      have hzb : -1000 ≤ z ∧ z ≤ 1000 := by have := HZ.out; omega
      have hwz : IntKind.i64.wrap (z - (pl : Int)) = z - (pl : Int) := IntWalk.i64_in _ (by omega)
      clear hpm htk hs
      by_cases hz0' : z ≤ 0
      · have hmx : (if z < 0 then (0 : Int) else z) = 0 := by split <;> omega
        have hx0 : a - s = 0 := by have := HZ.out; omega
        rw [hx0, hdP_zero, tlP_zero _ hpl, List.append_nil] at HSN
        clear hx0
        go_wp2_with (at_builtin; refine append_rds rfl (.tmp 45) (.tmp 57) 50 rfl W.heap.size 53 i0 _ 3 24 Try.underlying50 hi0 hz0 hz1 hz2 rfl (by omega) (.slice B7 m7 c7) m7 _ rfl (own_below HI.out.2.1 (((Below.refl _ _).alloc (Nat.le_refl _) _).alloc (by simp) _) fun k hk => (HI.out.2.1.lt k hk).2) _ _ 1 1 (pcs [⟨pa, pf, pl⟩]) rfl (rds_pc2 _ _ _ _ _) (pcs_one _) (by simp only [maxLen]; have := HC7.out; omega) (by have := HC7.out; omega) (by have := HB.out.size; simp; omega) ?_; intro v6 w6 hown6 hg6 hat6; obtain ⟨B6, d6, rfl, _, _⟩ := own_form hown6; rw [← pcs_append] at hown6; have HI6 := Lib.hid (split_snd HI.out (((Below.refl _ _).alloc (Nat.le_refl _) _).alloc (by simp) _) hg6 hown6 hat6); have HB6 : Hid (Below W.heap.size W w6) := ((HB.out.alloc HB.out.size _).alloc (by have := HB.out.size; simp; omega) _).grown hg6 (by have := HB.out.size; simp; omega) (fun k hk => (HI.out.2.1.lt k hk).1); clear hown6 hg6 hat6)
        go_roundw
        case rel =>
          refine ⟨k + 1, z - pl, A6, m6, c6, B6, m7 + 1, d6, _, rfl, by omega, by go_num, rfl, rfl, rfl, ?_, ?_, HB6.out⟩
          · show _ = _
            rw [HTK.out, HZ.out]; omega
          · show SplitInv _ _ _ _ _ _ _ _ _ _
            rw [HSN.out]
            exact HI6.out
        case measure => simp [intOf]; omega
      · obtain ⟨x, rfl⟩ : ∃ x : Nat, z = x := ⟨z.toNat, by omega⟩
        have hx : a - s = x := by have := HZ.out; omega
        rw [hx] at HSN
        clear hx
        have hmx : ¬ (x : Int) < 0 := by omega
        have hx0 : 0 < x := by omega
        have hx0' : (0 : Int) < (x : Int) := by omega
        by_cases hxl : x < pl
        · have hwf : IntKind.i64.wrap ((pf : Int) + (x : Int)) = ((pf + x : Nat) : Int) := by rw [show (pf : Int) + (x : Int) = ((pf + x : Nat) : Int) from by omega]; exact IntWalk.i64_in _ (by omega)
          have hwl : IntKind.i64.wrap ((pl : Int) - (x : Int)) = ((pl - x : Nat) : Int) := by rw [show (pl : Int) - (x : Int) = ((pl - x : Nat) : Int) from by omega]; exact IntWalk.i64_in _ (by omega)
          rw [hdP_mid _ _ hx0 hxl, tlP_mid _ _ hxl] at HSN
          obtain ⟨f2, hf2⟩ : ∃ f2, pf + x = f2 := ⟨_, rfl⟩
          obtain ⟨l2, hl2⟩ : ∃ l2, pl - x = l2 := ⟨_, rfl⟩
          simp only [hf2, hl2] at hwf hwl HSN
          clear hf2 hl2
          go_wp2_with (first | (at_builtin; refine append_rds rfl (.tmp 32) (.tmp 39) 50 rfl W.heap.size 53 i0 _ 3 24 Try.underlying50 hi0 hz0 hz1 hz2 rfl (by omega) (.slice A6 m6 c6) m6 _ rfl (own_below HI.out.1 (((Below.refl _ _).alloc (Nat.le_refl _) _).alloc (by simp) _) fun k hk => (HI.out.1.lt k hk).2) _ _ 1 1 (pcs [⟨pa, pf, x⟩]) rfl (rds_pc2 _ _ _ _ _) (pcs_one _) (by simp only [maxLen]; have := HC6.out; omega) (by have := HC6.out; omega) (by have := HB.out.size; simp; omega) ?_; intro v5 w5 hown5 hg5 hat5; obtain ⟨A5, c5, rfl, _, _⟩ := own_form hown5; rw [← pcs_append] at hown5; have HI5 := Lib.hid (split_fst HI.out (((Below.refl _ _).alloc (Nat.le_refl _) _).alloc (by simp) _) hg5 hown5 hat5); have HB5 : Hid (Below W.heap.size W w5) := ((HB.out.alloc HB.out.size _).alloc (by have := HB.out.size; simp; omega) _).grown hg5 (by have := HB.out.size; simp; omega) (fun k hk => (HI.out.1.lt k hk).1); have HXC : Hid (w5.cell? ⟨wr.heap.size, 0, none⟩ = some (.bool pa) ∧ w5.cell? ⟨wr.heap.size, 1, none⟩ = some (.int .i64 pf) ∧ w5.cell? ⟨wr.heap.size, 2, none⟩ = some (.int .i64 pl)) := box_keep hg5 (fun k hk => (HI.out.1.lt k hk).2); obtain ⟨u0, u1, u2⟩ := HXC.out; have hlt5 : wr.heap.size < w5.heap.size := (by have := hg5.size; simp at this; omega); clear hown5 hg5 hat5) | (at_builtin; refine append_rds rfl (.tmp 45) (.tmp 57) 50 rfl W.heap.size 53 i0 _ 3 24 Try.underlying50 hi0 hz0 hz1 hz2 rfl (by omega) (.slice B7 m7 c7) m7 _ rfl (own_below HI5.out.2.1 ((Below.refl _ _).alloc (Nat.le_refl _) _) fun k hk => (HI5.out.2.1.lt k hk).2) _ _ 1 1 (pcs [⟨pa, f2, l2⟩]) rfl (rds_pc1 _ _ _ _) (pcs_one _) (by simp only [maxLen]; have := HC7.out; omega) (by have := HC7.out; omega) (by have := HB5.out.size; simp; omega) ?_; intro v6 w6 hown6 hg6 hat6; obtain ⟨B6, d6, rfl, _, _⟩ := own_form hown6; rw [← pcs_append] at hown6; have HI6 := Lib.hid (split_snd HI5.out ((Below.refl _ _).alloc (Nat.le_refl _) _) hg6 hown6 hat6); have HB6 : Hid (Below W.heap.size W w6) := ((HB5.out.alloc HB5.out.size _)).grown hg6 (by have := HB5.out.size; simp; omega) (fun k hk => (HI5.out.2.1.lt k hk).1); clear hown6 hg6 hat6))
          go_roundw
          case rel =>
            refine ⟨k + 1, (x : Int) - pl, A5, m6 + 1, c5, B6, m7 + 1, d6, _, rfl, by omega, by go_num, rfl, rfl, rfl, ?_, ?_, HB6.out⟩
            · show _ = _
              rw [HTK.out, HZ.out]; omega
            · show SplitInv _ _ _ _ _ _ _ _ _ _
              rw [HSN.out]
              exact HI6.out
          case measure => simp [intOf]; omega
        · have hpl0 : (0 : Int) < (pl : Int) := by omega
          have hmn : (if pl < x then (pl : Int) else (x : Int)) = (pl : Int) := by split <;> omega
          rw [hdP_all _ _ hpl (by simp only; omega), tlP_all _ _ (by simp only; omega), List.append_nil] at HSN
          go_wp2_with (at_builtin; refine append_rds rfl (.tmp 32) (.tmp 39) 50 rfl W.heap.size 53 i0 _ 3 24 Try.underlying50 hi0 hz0 hz1 hz2 rfl (by omega) (.slice A6 m6 c6) m6 _ rfl (own_below HI.out.1 (((Below.refl _ _).alloc (Nat.le_refl _) _).alloc (by simp) _) fun k hk => (HI.out.1.lt k hk).2) _ _ 1 1 (pcs [⟨pa, pf, pl⟩]) rfl (rds_pc2 _ _ _ _ _) (pcs_one _) (by simp only [maxLen]; have := HC6.out; omega) (by have := HC6.out; omega) (by have := HB.out.size; simp; omega) ?_; intro v5 w5 hown5 hg5 hat5; obtain ⟨A5, c5, rfl, _, _⟩ := own_form hown5; rw [← pcs_append] at hown5; have HI5 := Lib.hid (split_fst HI.out (((Below.refl _ _).alloc (Nat.le_refl _) _).alloc (by simp) _) hg5 hown5 hat5); have HB5 : Hid (Below W.heap.size W w5) := ((HB.out.alloc HB.out.size _).alloc (by have := HB.out.size; simp; omega) _).grown hg5 (by have := HB.out.size; simp; omega) (fun k hk => (HI.out.1.lt k hk).1); have HXC : Hid (w5.cell? ⟨wr.heap.size, 0, none⟩ = some (.bool pa) ∧ w5.cell? ⟨wr.heap.size, 1, none⟩ = some (.int .i64 pf) ∧ w5.cell? ⟨wr.heap.size, 2, none⟩ = some (.int .i64 pl)) := box_keep hg5 (fun k hk => (HI.out.1.lt k hk).2); obtain ⟨u0, u1, u2⟩ := HXC.out; have hlt5 : wr.heap.size < w5.heap.size := (by have := hg5.size; simp at this; omega); clear hown5 hg5 hat5)
          go_roundw
          case rel =>
            refine ⟨k + 1, (x : Int) - pl, A5, m6 + 1, c5, B7, m7, c7, _, rfl, by omega, by go_num, rfl, rfl, rfl, ?_, ?_, HB5.out⟩
            · show _ = _
              rw [HTK.out, HZ.out]; omega
            · show SplitInv _ _ _ _ _ _ _ _ _ _
              rw [HSN.out]
              exact HI5.out
          case measure => simp [intOf]; omega
    · have hkn : k = n := by omega
      have HE : Hid (SplitInv W.heap.size wr A6 m6 c6 (cutP L a).1 B7 m7 c7 (cutP L a).2) := by
        have h1 := HI.out
        rw [List.take_of_length_le (by have := HL.out; omega)] at h1
        exact h1
      go_wp2
      go_ret2
      exact ⟨A6, m6, c6, B7, m7, c7, rfl, HE.out, HB.out⟩
end Go.Proofs.Ytpfceochplghlaa
