/- Cutting pieces at a place: plain laws; the walk of part. -/
import Derived.Test.YtpfceochplghlaaJ
import Derived.Deep.DeepCutAuto
import Derived.Deep.RegionWith
namespace Go.Proofs.Ytpfceochplghlaa
open Go.RowKit
attribute [local go_sem ↓] Go.wp_at_zero Go.wp_at_succ

/-- The pieces ahead of a place, and those from it on. -/
def cutP : List Pc → Nat → List Pc × List Pc
  | [], _ => ([], [])
  | p :: L, a => if a = 0 then ([], p :: L) else if a < p.ln then ([⟨p.add, p.fr, a⟩], ⟨p.add, p.fr + a, p.ln - a⟩ :: L) else (p :: (cutP L (a - p.ln)).1, (cutP L (a - p.ln)).2)
theorem cutP_zero (L : List Pc) : cutP L 0 = ([], L) := by cases L <;> simp [cutP]
theorem cutP_len (L : List Pc) : ∀ a, a ≤ plen L → plen (cutP L a).1 = a ∧ plen (cutP L a).2 = plen L - a := by
  induction L with
  | nil => intro a h; simp [plen] at h; subst h; simp [cutP, plen]
  | cons p L ih =>
    intro a h
    rw [plen_cons] at h
    simp only [cutP]
    split
    · rename_i h0; subst h0; exact ⟨rfl, rfl⟩
    · split
      · simp only [plen_cons, plen_nil]; omega
      · have h1 := ih (a - p.ln) (by omega)
        simp only [plen_cons]
        omega
theorem cutP_all {P : Pc → Prop} (L : List Pc) (h1 : ∀ p a, P p → 0 < a → a < p.ln → P ⟨p.add, p.fr, a⟩ ∧ P ⟨p.add, p.fr + a, p.ln - a⟩) : ∀ a, (∀ p ∈ L, P p) → (∀ p ∈ (cutP L a).1, P p) ∧ ∀ p ∈ (cutP L a).2, P p := by
  induction L with
  | nil => intro a _; simp [cutP]
  | cons q L ih =>
    intro a h
    simp only [cutP]
    split
    · exact ⟨by simp, h⟩
    · split
      · have hq := h1 q a (h q (by simp)) (by omega) (by assumption)
        refine ⟨by intro p hp; simp at hp; subst hp; exact hq.1, ?_⟩
        intro p hp
        rcases List.mem_cons.1 hp with rfl | hp
        · exact hq.2
        · exact h p (by simp [hp])
      · have h2 := ih (a - q.ln) fun p hp => h p (by simp [hp])
        refine ⟨?_, h2.2⟩
        intro p hp
        rcases List.mem_cons.1 hp with rfl | hp
        · exact h p (by simp)
        · exact h2.1 p hp
/-- Some pieces on. -/
theorem cutP_step {L : List Pc} {k a : Nat} (hk : k < L.length) {p : Pc} (hp : L.getD k pc0 = p) : cutP (L.drop k) a = if a = 0 then ([], L.drop k) else if a < p.ln then ([⟨p.add, p.fr, a⟩], ⟨p.add, p.fr + a, p.ln - a⟩ :: L.drop (k + 1)) else (p :: (cutP (L.drop (k + 1)) (a - p.ln)).1, (cutP (L.drop (k + 1)) (a - p.ln)).2) := by
  have e : L.drop k = p :: L.drop (k + 1) := by
    rw [List.drop_eq_getElem_cons hk, ← hp]
    simp [List.getD, hk]
  rw [e, cutP]
theorem take_getDp {L : List Pc} {k : Nat} (hk : k < L.length) {p : Pc} (hp : L.getD k pc0 = p) : L.take (k + 1) = L.take k ++ [p] := by
  rw [List.take_succ_eq_append_getElem hk, ← hp]
  simp [List.getD, hk]
/-- A piece of a row. -/
theorem prow_at {w : World} {base n c k : Nat} {A : Option Addr} {L : List Pc} (h : w.ownsRow base 53 3 (.slice A n c) n (pcs L)) (hk : k < n) : ∃ (g : Nat) (p : Pc), A = some ⟨g, 0, none⟩ ∧ g < w.heap.size ∧ p ∈ L ∧ Hid (L.getD k pc0 = p) ∧
    w.cell? ⟨g, k * 3, none⟩ = some (.bool p.add) ∧ w.cell? ⟨g, k * 3 + 1, none⟩ = some (.int .i64 p.fr) ∧ w.cell? ⟨g, k * 3 + 2, none⟩ = some (.int .i64 p.ln) := by
  have hL : L.length = n := by have h1 := h.1; rw [pcs_len] at h1; omega
  obtain ⟨g, cap, hv, _, hg2⟩ := h.form (by omega)
  have hA : A = some ⟨g, 0, none⟩ := by injection hv
  subst hA
  have hc : ∀ j, j < 3 → w.cell? ⟨g, k * 3 + j, none⟩ = [Value.bool (L.getD k pc0).add, Value.int .i64 (L.getD k pc0).fr, Value.int .i64 (L.getD k pc0).ln][j]? := fun j hj => by
    rw [h.cellAt _ (by omega)]
    exact pcs_at L k j (by omega) hj
  refine ⟨g, _, rfl, hg2, ?_, rfl, hc 0 (by omega), hc 1 (by omega), hc 2 (by omega)⟩
  have e : L.getD k pc0 = L[k]'(by omega) := by simp [List.getD, hL, hk]
  rw [e]
  exact List.getElem_mem _
theorem own_lower {w : World} {base base' z : Nat} {e : TypeId} {v : Value} {n : Nat} {xs : List Value} (h : w.ownsRow base e z v n xs) (hb : base' ≤ base) : w.ownsRow base' e z v n xs := by
  refine ⟨h.1, ?_⟩
  rcases h.2 with h0 | ⟨g, cap, cur, hv, hg, r⟩
  · exact .inl h0
  · exact .inr ⟨g, cap, cur, hv, Nat.le_trans hb hg, r⟩

/-- A piece in a box. -/
def Px (w : World) (b : Nat) (p : Pc) : Prop := w.heap[b]? = some (.cells (pbox p) 53 (0, 0))
theorem Px.cells {w : World} {b : Nat} {p : Pc} (h : Px w b p) : w.cell? ⟨b, 0, none⟩ = some (.bool p.add) ∧ w.cell? ⟨b, 1, none⟩ = some (.int .i64 p.fr) ∧ w.cell? ⟨b, 2, none⟩ = some (.int .i64 p.ln) :=
  ⟨cell_of_row w b 0 _ _ _ h, cell_of_row w b 1 _ _ _ h, cell_of_row w b 2 _ _ _ h⟩
theorem Px.free {w : World} {b : Nat} {p : Pc} (h : Px w b p) (j : Nat) : w.frozen? ⟨b, j, none⟩ = false := frozen_of_row w b j _ _ h
theorem Px.lt {w : World} {b : Nat} {p : Pc} (h : Px w b p) : b < w.heap.size := (Array.getElem?_eq_some_iff.1 h).1
theorem Px.below {w w' : World} {b N : Nat} {p : Pc} (h : Px w b p) (hb : Below N w w') (hl : b < N) : Px w' b p := (hb.block b hl).trans h
theorem Px.other {w : World} {b g o : Nat} {p : Pc} {v : Value} (h : Px w b p) (hn : b ≠ g) : Px (w.setCell ⟨g, o, none⟩ v) b p := (Below.heap_setCell w ⟨g, o, none⟩ v b hn).trans h
theorem Px.ln {w : World} {b : Nat} {p : Pc} (h : Px w b p) (v : Nat) : Px (w.setCell ⟨b, 2, none⟩ (.int .i64 v)) b ⟨p.add, p.fr, v⟩ := heap_setCell_same w b 2 _ _ _ h
theorem Px.fr {w : World} {b : Nat} {p : Pc} (h : Px w b p) (v : Nat) : Px (w.setCell ⟨b, 1, none⟩ (.int .i64 v)) b ⟨p.add, v, p.ln⟩ := heap_setCell_same w b 1 _ _ _ h
theorem px_first (w : World) (p : Pc) (o o' : Obj) : Px ((((w.alloc (.cells #[.bool p.add, .int .i64 p.fr, .int .i64 p.ln] 53 (0, 0))).alloc o).alloc o').drew) w.heap.size p := by
  have h : Px (w.alloc (.cells (pbox p) 53 (0, 0))) w.heap.size p := heap_alloc_new _ _
  have h2 := h.below (((Below.refl _ _).alloc (Nat.le_refl _) o)) (by simp)
  exact h2.below (((Below.refl _ _).alloc (Nat.le_refl _) o').drew) (by simp; omega)
theorem px_second (w : World) (p : Pc) (o o' : Obj) : Px ((((w.alloc o).alloc (.cells #[.bool p.add, .int .i64 p.fr, .int .i64 p.ln] 53 (0, 0))).alloc o').drew) (w.heap.size + 1) p := by
  have h : Px ((w.alloc o).alloc (.cells (pbox p) 53 (0, 0))) (w.heap.size + 1) p := by
    have h := heap_alloc_new (w.alloc o) (.cells (pbox p) 53 (0, 0))
    rwa [show (w.alloc o).heap.size = w.heap.size + 1 from by simp] at h
  exact h.below (((Below.refl _ _).alloc (Nat.le_refl _) o').drew) (by simp)
theorem px_third (w : World) (p : Pc) (o o' : Obj) : Px ((((w.alloc o).alloc o').alloc (.cells #[.bool p.add, .int .i64 p.fr, .int .i64 p.ln] 53 (0, 0))).drew) (w.heap.size + 1 + 1) p := by
  have h := heap_alloc_new ((w.alloc o).alloc o') (.cells (pbox p) 53 (0, 0))
  rw [show ((w.alloc o).alloc o').heap.size = w.heap.size + 1 + 1 from by simp] at h
  exact h
theorem fresh_nd {W : World} {t : Nat} {P : List Nat} {A : Option Addr} (h : (t :: P).Nodup) (hl : ∀ g ∈ t :: P, g < W.heap.size) (hf : ∀ ad, A = some ad → W.heap.size ≤ ad.block) : (t :: (P ++ blk A)).Nodup := by
  cases A with
  | none => simpa [blk] using h
  | some a =>
    have ha := hf a rfl
    rw [← List.cons_append, List.nodup_append]
    refine ⟨h, by simp [blk], fun x hx y hy => ?_⟩
    simp [blk] at hy
    have := hl x hx
    omega
/-- The pieces are written anew. -/
theorem tab_ps {W w3 : World} {t n0 c0 n1 c1 n2 c2 n3 c3 : Nat} {A0 A1 A2 A3 : Option Addr} {T : Tb} {L : List Pc} (h : TabAt W t A0 n0 c0 A1 n1 c1 A2 n2 c2 T) (hb : Below W.heap.size W w3) (ho : w3.ownsRow 0 53 3 (.slice A3 n3 c3) n3 (pcs L))
    (hf : ∀ ad, A3 = some ad → W.heap.size ≤ ad.block) (hl : plen L = plen T.ps) : TabAt (w3.setCell ⟨t, 2, none⟩ (.slice A3 n3 c3)) t A0 n0 c0 A1 n1 c1 A3 n3 c3 ⟨T.fst, T.add, L⟩ := by
  have hlt := h.lt
  have ht := hlt t (by simp)
  have hnd := h.nd
  have hc : Chg [t] W (w3.setCell ⟨t, 2, none⟩ (.slice A3 n3 c3)) := ((Chg.of_below hb).mono (F := []) (G := [t]) (by simp)).setCell (.inl (by simp)) _
  have hnd' : (t :: (blk A0 ++ blk A1)).Nodup := by
    rw [← List.cons_append] at hnd
    exact (List.nodup_append.1 hnd).1
  have hn : ∀ g ∈ blk A0 ++ blk A1, g ≠ t := fun g hg e => by subst e; exact (List.nodup_cons.1 hnd').1 hg
  refine ⟨?_, own_keep h.r0 hc fun g hg => by have := hn g (by simp [hg]); simpa using this, own_keep h.r1 hc fun g hg => by have := hn g (by simp [hg]); simpa using this, ?_, fresh_nd (W := W) hnd' (fun g hg => hlt g (by simp at hg ⊢; rcases hg with hg | hg | hg <;> simp [hg])) hf⟩
  · have e : (⟨T.fst, T.add, L⟩ : Tb).ps = L := rfl
    rw [e, hl]
    exact heap_setCell_same w3 t 2 _ _ _ ((hb.block t ht).trans h.top)
  · refine own_keep ho ((Chg.refl [t] w3).setCell (p := ⟨t, 2, none⟩) (.inl (by simp)) _) fun g hg => ?_
    cases A3 with
    | none => simp [blk] at hg
    | some a =>
      have := hf a rfl
      simp [blk] at hg
      simp; omega
theorem replace_v (W : World) (A : Option Addr) (n c i q : Nat) (L : List Pc) (b : Bool) (x1 x2 y1 y2 : Nat) (h : W.ownsRow 0 53 3 (.slice A n c) n (pcs L)) (hi : i < n) (hn : n ≤ 1000000) (hq : W.heap[q]? = some (.cells #[.bool b, .int .i64 x1, .int .i64 x2, .bool b, .int .i64 y1, .int .i64 y2] 53 (0, 0))) (hqA : q ∉ blk A) :
    Calls Try.prog 52 #[.slice A n c, .int .i64 i, .int .i64 ((i : Int) + 1), .slice (some ⟨q, 0, none⟩) 2 2] W fun e w' => ∃ A' c', e = .returned (.slice A' (n + 1) c') ∧ w'.ownsRow 0 53 3 (.slice A' (n + 1) c') (n + 1) (pcs (L.take i ++ [⟨b, x1, x2⟩, ⟨b, y1, y2⟩] ++ L.drop (i + 1))) ∧ Chg (blk A) W w' ∧ (∀ ad, A' = some ad → A = some ad ∨ W.heap.size ≤ ad.block) :=
  replace_any W A n c i q L ⟨b, x1, x2⟩ ⟨b, y1, y2⟩ h hi hn hq hqA
theorem blk_not {W : World} {base z n c q : Nat} {e : TypeId} {A : Option Addr} {xs : List Value} (h : W.ownsRow base e z (.slice A n c) n xs) (hq : q < base ∨ W.heap.size ≤ q) : q ∉ blk A := by
  intro hm
  cases A with
  | none => simp [blk] at hm
  | some a =>
    have := own_base h
    simp [blk] at hm
    omega
theorem blk_ge {W : World} {base z n c B : Nat} {e : TypeId} {A : Option Addr} {xs : List Value} (h : W.ownsRow base e z (.slice A n c) n xs) (hB : B ≤ base) : ∀ k ∈ blk A, B ≤ k := by
  intro k hm
  cases A with
  | none => simp [blk] at hm
  | some a =>
    have := own_base h
    simp [blk] at hm
    omega
theorem cut_ok {T : Tb} (h : T.Ok) {a : Nat} (ha : a ≤ plen T.ps) : (⟨T.fst, T.add, (cutP T.ps a).1 ++ (cutP T.ps a).2⟩ : Tb).Ok := by
  have h1 := cutP_all (P := fun p => 0 < p.ln ∧ p.fr + p.ln ≤ (T.src p.add).length) T.ps (fun p a h h0 h1 => by simp only; omega) a fun p hp => ⟨h.pos p hp, h.fits p hp⟩
  have h2 := cutP_len T.ps a ha
  have h3 := h.len
  have hall : ∀ p ∈ (cutP T.ps a).1 ++ (cutP T.ps a).2, 0 < p.ln ∧ p.fr + p.ln ≤ (T.src p.add).length := fun p hp => by
    rcases List.mem_append.1 hp with hp | hp
    · exact h1.1 p hp
    · exact h1.2 p hp
  exact ⟨fun p hp => (hall p hp).1, fun p hp => (hall p hp).2, by show plen _ ≤ 1000; rw [plen_append]; omega, h.fst, h.add⟩
/-- What part leaves. -/
def PartPost (W : World) (t : Nat) (F : List Nat) (T : Tb) (a : Nat) (e : Ending) (w' : World) : Prop :=
  e = .returned (.int .i64 ((cutP T.ps a).1.length : Nat)) ∧ ∃ F', TabIn w' t F' ⟨T.fst, T.add, (cutP T.ps a).1 ++ (cutP T.ps a).2⟩ ∧ (∀ g ∈ F', g ∈ F ∨ W.heap.size ≤ g) ∧ Chg F W w'

set_option maxRecDepth 100000 in
set_option maxHeartbeats 4000000 in
theorem part_any (W : World) (t : Nat) (F : List Nat) (T : Tb) (a : Nat) (h : TabIn W t F T) (ha : a ≤ plen T.ps) : Calls Try.prog 35 #[.pointer (some ⟨t, 0, none⟩), .int .i64 a] W (PartPost W t F T a) := by
  have hok := h.ok
  have HOK := Lib.hid hok
  have HT := Lib.hid h
  obtain ⟨A0, n0, c0, A1, n1, c1, A2, n2, c2, hat, rfl, _⟩ := h
  have HAT := Lib.hid hat
  have hl2 := hat.lens.2.2
  have HL := Lib.hid hl2
  have hn2 : n2 ≤ 1000 := by have h1 := count_le hok.pos; have h2 := hok.len; omega
  have ha2 : a ≤ 1000 := by have h2 := hok.len; omega
  obtain ⟨z0, z1, z2, z3⟩ := hat.cells
  have HZ2 := Lib.hid z2
  have htl := hat.lt t (by simp)
  have HA := Lib.hid ha
  clear z0 z1 z3 hok hat hl2 ha
  go_enter Try.func35, Try.ntmps35
  go_wp2
  go_loopw [1, 14] (fun at0 i wr => ∃ (k a' : Nat) (w0 : World), w0 = wr ∧ k ≤ n2 ∧ i = .int .i64 k ∧ at0 = .int .i64 a' ∧ a' ≤ 1000 ∧ Hid (cutP T.ps a = (T.ps.take k ++ (cutP (T.ps.drop k) a').1, (cutP (T.ps.drop k) a').2)) ∧ Below W.heap.size W wr) (fun _ i _ => n2 - (intOf i).toNat)
  case atStart => exact ⟨0, a, _, rfl, Nat.zero_le _, rfl, rfl, ha2, by simp [Hid], Below.refl _ _⟩
  case round =>
    obtain ⟨k, a', wr, rfl, hk, rfl, rfl, ha', HC, hbx⟩ := hrel
    have hxz := hbx.size
    have z2 := (hbx.cell (p := ⟨t, 2, none⟩) htl).trans HZ2.out
    by_cases hlt : k < n2
    · obtain ⟨g, p, rfl, hg, hpm, HP, y0, y1, y2⟩ := prow_at (HAT.out.below hbx).r2 hlt
      have hpos := HOK.out.pos p hpm
      have hst := cutP_step (a := a') (by rw [HL.out]; exact hlt) HP.out
      have hpl : p.ln ≤ 20000 := by
        have h1 := HOK.out.fits p hpm
        have h2 := HOK.out.fst
        have h3 := HOK.out.add
        unfold Tb.src at h1
        split at h1 <;> omega
      have hpf : p.fr ≤ 20000 := by
        have h1 := HOK.out.fits p hpm
        have h2 := HOK.out.fst
        have h3 := HOK.out.add
        unfold Tb.src at h1
        split at h1 <;> omega
      have HBX := Lib.hid hbx
      have HST := Lib.hid hst
      have hJ1 : (0 : Int) ≤ (k : Int) ∧ (k : Int) < (n2 : Int) := by omega
      obtain ⟨hJ1a, hJ1b⟩ := hJ1
      clear hbx hst hpm
      by_cases h0 : a' = 0
      · have HR : Hid (cutP T.ps a = (T.ps.take k, T.ps.drop k)) := by
          rw [Hid, HC.out, HST.out, if_pos h0]
          simp
        subst h0
        go_wp2
        go_ret
        have hlk : (T.ps.take k).length = k := by rw [List.length_take, HL.out]; omega
        refine ⟨ret_int (by rw [HR.out, hlk]), t :: (blk A0 ++ blk A1 ++ blk (some ⟨g, 0, none⟩)), ?_, fun x hx => .inl (by simpa using hx), Chg.of_below (HBX.out.trans ((Below.refl _ _).alloc hxz _))⟩
        rw [HR.out]
        have e : T.ps.take k ++ T.ps.drop k = T.ps := List.take_append_drop _ _
        rw [e]
        exact HT.out.below (HBX.out.trans ((Below.refl _ _).alloc hxz _))
      · by_cases h1 : a' < p.ln
        · have hHR : Hid (cutP T.ps a = (T.ps.take k ++ [⟨p.add, p.fr, a'⟩], ⟨p.add, p.fr + a', p.ln - a'⟩ :: T.ps.drop (k + 1))) := by
            rw [Hid, HC.out, HST.out, if_neg h0, if_pos h1]
          have h0' : ¬ (a' : Int) ≤ 0 := by omega
          go_upto_region 7 with fail
          go_cut [7, 8] (fun s7 s8 wx => ∃ (b7 b8 : Nat), s7 = .pointer (some ⟨b7, 0, none⟩) ∧ s8 = .pointer (some ⟨b8, 0, none⟩) ∧ b7 ≠ b8 ∧ wr.heap.size < b7 ∧ wr.heap.size < b8 ∧ Hid (Px wx wr.heap.size p) ∧ Hid (Px wx b7 p) ∧ Hid (Px wx b8 p) ∧ Hid (Below wr.heap.size wr wx))
          case first =>
            go_region
            all_goals
              go_wp2_with fail
              go_meet
              refine ⟨_, _, rfl, rfl, by omega, by omega, by omega, ?_, ?_, ?_, ((((Below.refl _ _).alloc (Nat.le_refl _) _).alloc (by simp) _).alloc (by simp; omega) _).drew⟩
              · exact px_first _ _ _ _
              · first | exact px_second _ _ _ _ | exact px_third _ _ _ _
              · first | exact px_third _ _ _ _ | exact px_second _ _ _ _
          case rest =>
            obtain ⟨b7, b8, rfl, rfl, hne, h7, h8, P6, P7, P8, HWX⟩ := hcut
            obtain ⟨q0, q1, q2⟩ := P6.out.cells
            obtain ⟨u0, u1, u2⟩ := P7.out.cells
            obtain ⟨x0, x1, x2⟩ := P8.out.cells
            have f72 := P7.out.free 2
            have f81 := P8.out.free 1
            have f82 := P8.out.free 2
            obtain ⟨rf, hrf⟩ : ∃ rf, p.fr + a' = rf := ⟨_, rfl⟩
            obtain ⟨rl, hrl⟩ : ∃ rl, p.ln - a' = rl := ⟨_, rfl⟩
            rw [hrf, hrl] at hHR
            have hw1 : (p.fr : Int) + (a' : Int) = (rf : Int) := by omega
            have hw2 : (p.ln : Int) - (a' : Int) = (rl : Int) := by omega
            have hw3 : IntKind.i64.wrap ((p.fr : Int) + (a' : Int)) = (rf : Int) := by rw [hw1]; exact IntWalk.i64_in _ (by omega)
            have hw4 : IntKind.i64.wrap ((p.ln : Int) - (a' : Int)) = (rl : Int) := by rw [hw2]; exact IntWalk.i64_in _ (by omega)
            have HRF := Lib.hid hrf
            have HRL := Lib.hid hrl
            clear hrf hrl
            go_wp2
            go_region
            go_wp2
            have HX7 : Hid (Px ((((wc.setCell ⟨b7, 2, none⟩ (.int .i64 a')).setCell ⟨b8, 1, none⟩ (.int .i64 rf)).setCell ⟨b8, 2, none⟩ (.int .i64 rl)).drew) b7 ⟨p.add, p.fr, a'⟩) := ((P7.out.ln a').other hne).other hne
            have HX8 : Hid (Px ((((wc.setCell ⟨b7, 2, none⟩ (.int .i64 a')).setCell ⟨b8, 1, none⟩ (.int .i64 rf)).setCell ⟨b8, 2, none⟩ (.int .i64 rl)).drew) b8 ⟨p.add, rf, rl⟩) := ((P8.out.other (Ne.symm hne)).fr rf).ln rl
            have HXB : Hid (Below wr.heap.size wr ((((wc.setCell ⟨b7, 2, none⟩ (.int .i64 a')).setCell ⟨b8, 1, none⟩ (.int .i64 rf)).setCell ⟨b8, 2, none⟩ (.int .i64 rl)).drew)) := ((((HWX.out.setCell (p := ⟨b7, 2, none⟩) (Nat.le_of_lt h7) _).setCell (p := ⟨b8, 1, none⟩) (Nat.le_of_lt h8) _).setCell (p := ⟨b8, 2, none⟩) (Nat.le_of_lt h8) _)).drew
            clear P6 P7 P8 q0 q1 q2 u0 u1 u2 x0 x1 x2 f72 f81 f82 hw1 hw2 hw3 hw4 y0 y1 y2 z2
            generalize hX : (((wc.setCell ⟨b7, 2, none⟩ (.int .i64 a')).setCell ⟨b8, 1, none⟩ (.int .i64 rf)).setCell ⟨b8, 2, none⟩ (.int .i64 rl)).drew = X at HX7 HX8 HXB ⊢
            have HWW : Hid (Below W.heap.size W X) := HBX.out.trans (HXB.out.mono hxz)
            have hzX := HWW.out.size
            have HRD : Hid (∀ w, Below X.heap.size X w → Rds w w.heap.size 3 (some ⟨g, 0, none⟩) n2 (pcs T.ps)) := fun w hb => Rds.of_own (HAT.out.below (HWW.out.trans (hb.mono hzX))).r2
            have HTC : Hid (∀ w, Below X.heap.size X w → w.cell? ⟨t, 2, none⟩ = some (.slice (some ⟨g, 0, none⟩) n2 c2) ∧ w.frozen? ⟨t, 2, none⟩ = false) := fun w hb => by
              have h := HAT.out.below (HWW.out.trans (hb.mono hzX))
              exact ⟨h.cells.2.2.1, h.free 2⟩
            obtain ⟨u0, u1, u2⟩ := HX7.out.cells
            obtain ⟨x0, x1, x2⟩ := HX8.out.cells
            have hl7 := HX7.out.lt
            have hl8 := HX8.out.lt
            have htX : t < X.heap.size := by omega
            have z2 := (HTC.out X (Below.refl _ _)).1
            have HC78 : Hid (∀ w, Below X.heap.size X w → Px w b7 ⟨p.add, p.fr, a'⟩ ∧ Px w b8 ⟨p.add, rf, rl⟩) := fun w hb => ⟨HX7.out.below hb hl7, HX8.out.below hb hl8⟩
            have hn3 : n2 ≤ 1000000 := by omega
            have hwk : IntKind.i64.wrap ((k : Int) + 1) = (k : Int) + 1 := IntWalk.i64_in _ (by omega)
            clear hX HX7 HX8
            go_region_with ((first
              | (go_at_call 46; (with_reducible refine (clone_p (some ⟨g, 0, none⟩) n2 c2 T.ps _ (HRD.out _ (by repeat (first | exact Below.refl _ _ | refine Below.drew ?_ | refine Below.alloc ?_ (by first | omega | (simp <;> omega)) _))) hn3).mono ?_); rintro e w1 ⟨v1, rfl, hown1, hd1⟩; obtain ⟨A4, p4, rfl, _, _⟩ := own_form hown1; have HLT := Lib.hid hown1; have HO1 := Lib.hid (own_lower hown1 (Nat.zero_le _)); have HD1 := Lib.hid hd1; have HB1 : Hid (Below X.heap.size X w1) := Below.trans (by repeat (first | exact Below.refl _ _ | refine Below.drew ?_ | refine Below.alloc ?_ (by first | omega | (simp <;> omega)) _)) (hd1.mono (by first | exact Nat.le_refl _ | (simp; done) | (simp; omega))); have hq1 : X.heap.size ≤ w1.heap.size := HB1.out.size; have htw := HTC.out _ HB1.out; obtain ⟨htw1, htw2⟩ := htw; have h78 := HC78.out _ HB1.out; obtain ⟨v0, v1, v2⟩ := h78.1.cells; obtain ⟨y0, y1, y2⟩ := h78.2.cells; have hl9 : b7 < w1.heap.size := (by omega); have hl10 : b8 < w1.heap.size := (by omega); have htw3 : t < w1.heap.size := (by omega); clear hown1 hd1 h78)
              | (go_at_call 52; (with_reducible refine (replace_v _ A4 n2 p4 k _ T.ps p.add p.fr a' rf rl (by first | exact HO1.out | exact HO1.out.alloc _) hlt hn3 (by first | exact heap_alloc_new _ _ | exact (HD1.out.block _ (by simp)).trans (heap_alloc_new _ _)) (by first | exact blk_not HLT.out (.inr (Nat.le_refl _)) | exact blk_not HLT.out (.inl (by simp)))).mono ?_); rintro e w3 ⟨A3, c3, rfl, hown3, hcg3, hfr3⟩; have HO3 := Lib.hid hown3; have HB3 : Hid (Below X.heap.size X w3) := Below.trans (by repeat (first | exact HB1.out | refine Below.alloc ?_ (by first | omega | (simp <;> omega)) _)) (hcg3.below (fun k hk => blk_ge HLT.out (by first | exact Nat.le_refl _ | (simp; done) | (simp; omega)) k hk) (by first | exact hq1 | (simp; omega))); have htv := HTC.out _ HB3.out; obtain ⟨htv1, htv2⟩ := htv; have HF3 : Hid (∀ ad, A3 = some ad → X.heap.size ≤ ad.block) := (fun ad e => by rcases hfr3 ad e with h | h; exact blk_ge HLT.out (by first | exact Nat.le_refl _ | (simp; done) | (simp; omega)) ad.block (by rw [h]; simp [blk]); (try simp at h); omega); clear hown3 hcg3 hfr3)))
            all_goals
              go_wp2
              go_ret
              have hB3 : Below W.heap.size W w3 := HWW.out.trans (HB3.out.mono hzX)
              have hlk : (T.ps.take k).length = k := by rw [List.length_take, HL.out]; omega
              have hcl := cutP_len T.ps a HA.out
              have hps : T.ps.take k ++ [⟨p.add, p.fr, a'⟩, ⟨p.add, rf, rl⟩] ++ T.ps.drop (k + 1) = (cutP T.ps a).1 ++ (cutP T.ps a).2 := by rw [hHR.out]; simp
              have ho3 := HO3.out
              rw [hps] at ho3
              refine ⟨ret_int (by rw [hHR.out]; simp [hlk]), _, ⟨A0, n0, c0, A1, n1, c1, A3, n2 + 1, c3, tab_ps HAT.out hB3 ho3 (fun ad e => Nat.le_trans hzX (HF3.out ad e)) (by rw [plen_append]; have := HA.out; omega), rfl, cut_ok HOK.out HA.out⟩, ?_, ?_⟩
              · intro x hx
                simp only [List.mem_cons, List.mem_append] at hx ⊢
                rcases hx with rfl | (hx | hx) | hx
                · left; simp
                · left; simp [hx]
                · left; simp [hx]
                · right
                  cases A3 with
                  | none => simp [blk] at hx
                  | some ad =>
                    have := HF3.out ad rfl
                    simp [blk] at hx
                    omega
              · exact ((Chg.of_below hB3).mono (F := []) (by simp)).setCell (.inl (by simp)) _
        · have HN : Hid (cutP T.ps a = (T.ps.take (k + 1) ++ (cutP (T.ps.drop (k + 1)) (a' - p.ln)).1, (cutP (T.ps.drop (k + 1)) (a' - p.ln)).2)) := by
            rw [Hid, HC.out, HST.out, if_neg h0, if_neg h1, take_getDp (by rw [HL.out]; exact hlt) HP.out]
            simp
          have hd : (a' : Int) - (p.ln : Int) = ((a' - p.ln : Nat) : Int) := by omega
          obtain ⟨a2, ha2'⟩ : ∃ a2, a' - p.ln = a2 := ⟨_, rfl⟩
          rw [ha2'] at hd HN
          have hwd : IntKind.i64.wrap ((a' : Int) - (p.ln : Int)) = (a2 : Int) := by rw [hd]; exact IntWalk.i64_in _ (by omega)
          go_wp2
          clear hwd
          exact ⟨⟨k + 1, a2, _, rfl, by omega, by go_num, rfl, by omega, HN, HBX.out.trans ((Below.refl _ _).alloc hxz _)⟩, by simp [intOf]; omega⟩
    · have hkn : k = n2 := by omega
      subst hkn
      have HBX := Lib.hid hbx
      have HR : Hid (cutP T.ps a = (T.ps, [])) := by
        rw [Hid, HC.out, List.drop_of_length_le (by rw [HL.out]; exact Nat.le_refl _), List.take_of_length_le (by rw [HL.out]; exact Nat.le_refl _)]
        simp [cutP]
      clear hbx
      go_wp2
      go_ret
      refine ⟨ret_int (by rw [HR.out, HL.out]), _, ?_, fun g hg => .inl hg, Chg.of_below HBX.out⟩
      rw [HR.out, List.append_nil]
      exact HT.out.below HBX.out
end Go.Proofs.Ytpfceochplghlaa
