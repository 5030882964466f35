/- The walk of TreapHeap. -/
import Derived.Test.YtkibhinpbpgkeaaU
namespace Go.Proofs.Ytkibhinpbpgkeaa
open Go.RowKit Go.ChangeMaps

/-- A set that lies between two blocks. -/
def SetU (W : World) (B U s b : Nat) (K : List Mk) : Prop := ∃ t, SetIn W s b t ∧ t.list = K ∧ (∀ g ∈ s :: b :: t.blocks, B ≤ g ∧ g < U) ∧ K.length ≤ 600
theorem SetK.toU {W : World} {B s b : Nat} {K : List Mk} (h : SetK W B s b K) (o : Obj) : SetU (W.alloc o) B W.heap.size s b K := by
  obtain ⟨t, ht, hl, hB, hK⟩ := h
  exact ⟨t, ht.below ((Below.refl _ _).alloc (Nat.le_refl _) o) ht.lt, hl, fun g hg => ⟨hB g hg, ht.lt g hg⟩, hK⟩
theorem not_between {B U k : Nat} (h : U ≤ k ∨ k < B) : k ∉ List.range' B (U - B) := by
  rw [List.mem_range'_1]
  omega
theorem add_u (W : World) (B U s b : Nat) (K : List Mk) (m : Mk) (v : Int) (hv : Hid (addN K m = v)) (h : SetU W B U s b K) : Calls Try.prog 12 #[.pointer (some ⟨s, 0, none⟩), .agg #[.int .i64 m.id, .int .i64 m.fr, .int .i64 m.to, .int .i64 m.pr]] W
    fun e w' => e = .returned (.int .i64 v) ∧ SetK w' B s b (addL K m) ∧ Chg (List.range' B (U - B)) W w' := by
  obtain ⟨t, ht, rfl, hB, hlen⟩ := h
  rw [← hv.out]
  have hF : ∀ k ∈ s :: b :: t.blocks, k < W.heap.size → k ∈ List.range' B (U - B) := fun k hk _ => by
    have := hB k hk
    rw [List.mem_range'_1]
    omega
  by_cases hn : addN t.list m = 0
  · refine (add_yes W s b t m ht hn).mono ?_
    rintro e w' ⟨rfl, hl⟩
    have hL : addL t.list m = ins t.list m := by simp [addL, hn]
    rw [hn, hL]
    have hs := hl.setK (fun g hg => (hB g hg).1) (by have h1 := hB s (by simp); have h2 := ht.lt s (by simp); omega) (by rw [ins_len]; have := (addN_zero hn).2.2; omega)
    obtain ⟨_, _, _, _, hc⟩ := hl
    exact ⟨rfl, hs.1, hc.mono hF⟩
  · refine (add_no W s b t m ht hn).mono ?_
    rintro e w' ⟨rfl, hb⟩
    have hL : addL t.list m = t.list := by simp [addL, hn]
    rw [hL]
    exact ⟨rfl, ⟨t, ht.below hb ht.lt, rfl, fun g hg => (hB g hg).1, hlen⟩, Chg.of_below hb⟩
theorem marks_getD {M : List Mk} (h : MarksOk M) {k : Nat} (hk : k < M.length) {m : Mk} (hm : M.getD k ⟨0, 0, 0, 0⟩ = m) : m.id = k ∧ 0 ≤ m.fr ∧ m.fr ≤ 31 ∧ m.fr ≤ m.to ∧ m.to ≤ m.fr + 15 ∧ 0 ≤ m.pr ∧ m.pr ≤ 7 := by
  have e : M.getD k ⟨0, 0, 0, 0⟩ = M[k] := by simp [List.getD, hk]
  rw [← hm, e]
  exact h.2 k hk
theorem mem_take_id {M : List Mk} (h : MarksOk M) {k : Nat} {x : Mk} (hx : x ∈ M.take k) : 0 ≤ x.id ∧ x.id < k := by
  obtain ⟨i, hi, rfl⟩ := List.getElem_of_mem hx
  simp only [List.length_take] at hi
  rw [List.getElem_take]
  have := (h.2 i (by omega)).1
  omega
theorem take_getD (M : List Mk) (k : Nat) (hk : k < M.length) : M.take (k + 1) = M.take k ++ [M.getD k ⟨0, 0, 0, 0⟩] := by
  rw [List.take_succ_eq_append_getElem hk]
  simp [List.getD, hk]
/-- The next mark is added. -/
theorem add_next {M K : List Mk} (h : MarksOk M) {k : Nat} (hk : k < M.length) (hK : K.Perm (M.take k)) {m : Mk} (hm : M.getD k ⟨0, 0, 0, 0⟩ = m) : addN K m = 0 ∧ (addL K m).Perm (M.take (k + 1)) := by
  have hr := marks_getD h hk hm
  have hlen : K.length = k := by rw [hK.length_eq, List.length_take]; omega
  have h1 : mayB m.fr m.to = true := by simp [mayB]; omega
  have h2 : hasB K m.id = false := by
    simp only [hasB, List.any_eq_false]
    intro x hx
    have := mem_take_id h (hK.mem_iff.1 hx)
    simp
    omega
  have h3 : ¬ 600 ≤ K.length := by have := h.1; omega
  have hn : addN K m = 0 := by simp [addN, h1, h2, h3]
  refine ⟨hn, ?_⟩
  simp only [addL, hn, if_true]
  rw [take_getD M k hk, hm]
  exact (ins_perm K m).trans ((hK.cons m).trans (List.perm_append_comm (l₁ := [m])))
/-- How many tops there are among the first k. -/
def TopN (K : List Mk) (k tp : Nat) : Prop := (tp = 0 ∧ ∀ j, j < k → DD K j ≠ 1) ∨ (tp = 1 ∧ ∃ j, j < k ∧ DD K j = 1)
/-- The greatest priority. -/
def Most (L : List Mk) (p : Int) : Prop := (L = [] ∧ p = 0) ∨ ((∀ x ∈ L, x.pr ≤ p) ∧ ∃ x ∈ L, x.pr = p)
theorem most_next {M : List Mk} (h : MarksOk M) {k : Nat} (hk : k < M.length) {m : Mk} (hm : M.getD k ⟨0, 0, 0, 0⟩ = m) {p : Int} (hp : Most (M.take k) p) : Most (M.take (k + 1)) (max p m.pr) := by
  have hr := marks_getD h hk hm
  rw [take_getD M k hk, hm]
  right
  rcases hp with ⟨h0, rfl⟩ | ⟨h1, x, hx, hxp⟩
  · rw [h0]
    exact ⟨fun x hx => by simp at hx; subst hx; omega, m, by simp, by omega⟩
  · refine ⟨fun y hy => ?_, ?_⟩
    · simp only [List.mem_append, List.mem_singleton] at hy
      rcases hy with hy | rfl
      · have := h1 y hy; omega
      · omega
    · by_cases hle : p ≤ m.pr
      · exact ⟨m, by simp, by omega⟩
      · exact ⟨x, by simp [hx], by omega⟩

set_option maxRecDepth 100000 in
set_option maxHeartbeats 4000000 in
theorem heap_any (W : World) (A : Option Addr) (n c : Nat) (L : List Mk) (hL : RdM W W.heap.size A n L) (hn : n ≤ 9223372036854775807) :
    Calls Try.prog 4 #[.slice A n c] W fun e w' => e = .returned (.bool true) ∧ Below W.heap.size W w' := by
  go_enter Try.func4, Try.ntmps4
  go_wp2_with (first
    | (go_at_call 9; (with_reducible refine (marks_any W A n c L hL hn).mono ?_); rintro e w1 ⟨M, A1, p1, hM, rfl, ho1, hb1⟩)
    | (go_at_call 10; (with_reducible refine (new_k _).mono ?_); rintro e w2 ⟨rfl, hk2, hb2⟩))
  have HB1 := Lib.hid hb1
  have HB2 := Lib.hid hb2
  have HR := Lib.hid (RdM.of_own ho1 hb2)
  have HM := Lib.hid hM
  have hlen := hM.1
  obtain ⟨q, hq⟩ : ∃ q, M.length = q := ⟨_, rfl⟩
  obtain ⟨B, hB⟩ : ∃ B, w1.heap.size = B := ⟨_, rfl⟩
  have hBz : W.heap.size ≤ B := by have := hb1.size; omega
  rw [hq] at hlen HR ⊢
  rw [hB] at HB2 hk2 HR ⊢
  have HQ := Lib.hid hq
  clear hb1 hb2 ho1 hM hL hB hq
  go_wp2
  go_loopw [4, 21] (fun o i wr => ∃ (k : Nat) (w0 : World) (K : List Mk) (p : Int), w0 = wr ∧ k ≤ q ∧ i = .int .i64 k ∧ o = .int .i64 p ∧ 0 ≤ p ∧ p ≤ 7 ∧ Hid (K.Perm (M.take k) ∧ Most (M.take k) p) ∧ SetK wr B (B + 1) B K ∧ Below B w2 wr) (fun _ i _ => q - (intOf i).toNat)
  case atStart => exact ⟨0, _, [], 0, rfl, Nat.zero_le _, rfl, rfl, by omega, by omega, ⟨by simp, .inl ⟨by simp, rfl⟩⟩, hk2, Below.refl _ _⟩
  case round =>
    obtain ⟨k, wr, K, p, rfl, hk, rfl, rfl, hp0, hp7, HK, hS, hbx⟩ := hrel
    by_cases hlt : k < q
    · obtain ⟨ad, m, rfl, hBa, Hm, e0, e1, e2, e3⟩ := (HR.out.below hbx).at_ hlt
      have hkM : k < M.length := by rw [HQ.out]; exact hlt
      have ha := add_next HM.out hkM HK.out.1 Hm.out
      have hr := marks_getD HM.out hkM Hm.out
      have HA0 : Hid (addN K m = 0) := ha.1
      have HNX : Hid ((addL K m).Perm (M.take (k + 1)) ∧ Most (M.take (k + 1)) (max p m.pr)) := ⟨ha.2, most_next HM.out hkM Hm.out HK.out.2⟩
      have HBX := Lib.hid hbx
      have hzz := hS.size
      have hr2 := hr.2.2.2.2.2
      have hmx : 0 ≤ max p m.pr ∧ max p m.pr ≤ 7 := by omega
      clear hbx ha hr hkM
      go_wp2_with (go_at_call 12; (with_reducible refine (add_u _ B wr.heap.size (B + 1) B K m 0 HA0 (hS.toU _)).mono ?_); rintro e w3 ⟨rfl, hS3, hc3⟩; have x3 : w3.cell? ⟨wr.heap.size, 3, none⟩ = some (.int .i64 m.pr) := (cell_of_heap (hc3.block wr.heap.size (by simp) (not_between (.inl (Nat.le_refl _)))) 3).trans (by simp [go_sem]); have HB3 := Lib.hid (hc3.below (B := B) (fun k hk => (List.mem_range'_1.1 hk).1) (by simp; omega)); clear hc3)
      have hmx2 : max p m.pr = if p < m.pr then m.pr else p := by split <;> omega
      rw [hmx2] at hmx HNX
      exact ⟨⟨k + 1, _, addL K m, _, rfl, by omega, by go_num, rfl, hmx.1, hmx.2, HNX, hS3, HBX.out.trans (((Below.refl _ _).alloc hzz.2.2 _).trans HB3.out)⟩, by simp [intOf]; omega⟩
    · have hkq : k = q := by omega
      subst hkq
      have hKP : Hid (K.Perm M ∧ Most M p) := by
        have h := HK.out
        rw [← HQ.out, List.take_length] at h
        exact h
      have HBX := Lib.hid hbx
      have hKl : K.length ≤ 30 := by rw [hKP.out.1.length_eq, HQ.out]; exact hlen
      have hKid := Lib.hid hS.ids
      clear hbx HK HR
      go_wp2_with (go_at_call 16; (with_reducible refine (all_k _ B _ _ _ hS).mono ?_); rintro e w4 ⟨A4, p4, rfl, ho4, hb4⟩)
      have HR4 := Lib.hid (RdM.of_own ho4 (Below.refl _ _))
      have HS4 := Lib.hid (hS.below hb4)
      have HB4 := Lib.hid (HBX.out.trans (hb4.mono hS.size.2.2))
      obtain ⟨nK, hnK⟩ : ∃ nK, K.length = nK := ⟨_, rfl⟩
      rw [hnK] at hKl HR4 ⊢
      have HNK := Lib.hid hnK
      clear hS hb4 ho4 hnK HBX
      go_loopw [8, 38] (fun o i wr => ∃ (k : Nat) (w0 : World) (tp : Nat), w0 = wr ∧ k ≤ nK ∧ i = .int .i64 k ∧ o = .int .i64 tp ∧ tp ≤ 1 ∧ Hid (TopN K k tp) ∧ Below w4.heap.size w4 wr) (fun _ i _ => nK - (intOf i).toNat)
      case atStart => exact ⟨0, _, 0, rfl, Nat.zero_le _, rfl, rfl, by omega, .inl ⟨rfl, fun j hj => by omega⟩, Below.refl _ _⟩
      case round =>
        obtain ⟨k, wr, tp, rfl, hk, rfl, rfl, htp, HT, hbx⟩ := hrel
        by_cases hlt : k < nK
        · have hkK : Hid (k < K.length) := by rw [Hid, HNK.out]; exact hlt
          obtain ⟨ad, m, rfl, hBa, Hm, e0, e1, e2, e3⟩ := (HR4.out.below hbx).at_ hlt
          obtain ⟨D, hD⟩ : ∃ D : Int, (DD K k : Int) = D := ⟨_, rfl⟩
          have HD : Hid ((depN [] K m.id : Int) = D) := by rw [Hid, DD_depN K k hkK.out hKid.out m Hm.out]; exact hD
          have hDb : 1 ≤ D ∧ D ≤ nK := by have := DD_bounds K k hkK.out; rw [HNK.out] at this; omega
          obtain ⟨hD1, hD2⟩ := hDb
          have hS5 := HS4.out.below hbx
          have HBX := Lib.hid hbx
          have hxz := hbx.size
          have hBw : (ad.add (k * 4)).block < wr.heap.size := by omega
          have HDD := Lib.hid hD
          clear hbx hD
          by_cases h1 : DD K k = 1
          · have hd1 : D = 1 := by have h := HDD.out; omega
            subst hd1
            have ht0 : tp = 0 := by
              rcases HT.out with ⟨h, _⟩ | ⟨_, i, hi, hi1⟩
              · exact h
              · have := DD_one_unique hKid.out (show i < K.length by have := hkK.out; omega) hkK.out hi1 h1
                omega
            subst ht0
            have hpm : m.pr = p := by
              have ht := (DD_one K k hkK.out).1 h1
              rw [Hm.out] at ht
              have hmK : m ∈ K := by rw [← Hm.out]; exact getD_mem hkK.out
              rcases hKP.out.2 with ⟨h0, _⟩ | ⟨hp1, x, hx, hxp⟩
              · have := hKP.out.1.mem_iff.1 hmK
                rw [h0] at this
                cases this
              · have a1 := hp1 m (hKP.out.1.mem_iff.1 hmK)
                have a2 := ht x (hKP.out.1.mem_iff.2 hx)
                simp only [abv, decide_eq_false_iff_not] at a2
                omega
            have hpb : (m.pr != p) = false := by simp [hpm]
            have HT2 : Hid (TopN K (k + 1) 1) := .inr ⟨rfl, k, by omega, h1⟩
            clear h1 hpm
            by_cases hk0 : k = 0
            · subst hk0
              simp only [Nat.zero_mul, add_zero'] at e0 e1 e2 e3 hBw
              go_wp2_with (first
                | (go_at_call 14; (with_reducible refine (depth_k _ B (B + 1) B K m.id 1 HD (hS5.alloc _)).mono ?_); rintro e w6 ⟨rfl, hb6⟩; have hz6 : wr.heap.size < w6.heap.size := (by have hz := hb6.size; (try simp at hz); omega); have z3 : w6.cell? ⟨wr.heap.size, 3, none⟩ = some (.int .i64 m.pr) := (hb6.cell (p := ⟨wr.heap.size, 3, none⟩) (by simp)).trans (by simp [go_sem]); have HB6 : Hid (Below wr.heap.size wr w6) := ((Below.refl _ _).alloc (Nat.le_refl _) _).trans (hb6.mono (by simp)); have HS6 := Lib.hid ((hS5.alloc _).below hb6); clear hb6))
              go_roundw
              case rel => exact ⟨0 + 1, _, 1, rfl, by omega, by go_num, rfl, by omega, HT2, HBX.out.trans (HB6.out.mono hxz)⟩
              case measure => simp [intOf]; omega
            · have hk0' : ((k : Int) == 0) = false := by simp; omega
              obtain ⟨j, hj⟩ : ∃ j, k = j + 1 := ⟨k - 1, by omega⟩
              have hj1 : (k : Int) - 1 = (j : Int) := by omega
              have hj2 : IntKind.i64.wrap ((k : Int) - 1) = (j : Int) := by rw [hj1]; exact IntWalk.i64_in _ (by omega)
              have hjn : j < nK := by omega
              obtain ⟨ad2, v, hA2, hBv, Hv, y0', y1', y2', y3'⟩ := (HR4.out.below HBX.out).at_ hjn
              have hA3 : ad = ad2 := by injection hA2
              subst hA3
              have hBv : (ad.add (j * 4)).block < wr.heap.size := by omega
              obtain ⟨E, hE⟩ : ∃ E : Int, (DD K j : Int) = E := ⟨_, rfl⟩
              have hjK : j < K.length := by have := hkK.out; omega
              have HE : Hid ((depN [] K v.id : Int) = E) := by rw [Hid, DD_depN K j hjK hKid.out v Hv.out]; exact hE
              have hnx := DD_next hKid.out (k := j) (w := v) (m := m) (by have := hkK.out; omega) Hv.out (by rw [← hj]; exact Hm.out)
              rw [← hj] at hnx
              have hnx2 : (E < 1 ∧ m.pr ≤ v.pr) ∨ (1 < E ∧ v.pr ≤ m.pr) := by have h := HDD.out; omega
              have hne : ((1 : Int) == E) = false := by simp; omega
              clear hnx hE hj hA2
              rcases hnx2 with ⟨hc1, hc2⟩ | ⟨hc1, hc2⟩
              · go_wp2_with (first
                  | (go_at_call 14; (with_reducible refine (depth_k _ B (B + 1) B K m.id 1 HD (hS5.alloc _)).mono ?_); rintro e w6 ⟨rfl, hb6⟩; have hz6 : wr.heap.size < w6.heap.size := (by have hz := hb6.size; (try simp at hz); omega); have z3 : w6.cell? ⟨wr.heap.size, 3, none⟩ = some (.int .i64 m.pr) := (hb6.cell (p := ⟨wr.heap.size, 3, none⟩) (by simp)).trans (by simp [go_sem]); have HB6 : Hid (Below wr.heap.size wr w6) := ((Below.refl _ _).alloc (Nat.le_refl _) _).trans (hb6.mono (by simp)); have HS6 := Lib.hid ((hS5.alloc _).below hb6); clear hb6; have y0 : w6.cell? (ad.add (j * 4)) = some (.int .i64 v.id) := (HB6.out.cell (p := (ad.add (j * 4))) hBv).trans y0'; have y1 : w6.cell? ⟨(ad.add (j * 4)).block, (ad.add (j * 4)).off + 1, none⟩ = some (.int .i64 v.fr) := (HB6.out.cell (p := ⟨(ad.add (j * 4)).block, (ad.add (j * 4)).off + 1, none⟩) hBv).trans y1'; have y2 : w6.cell? ⟨(ad.add (j * 4)).block, (ad.add (j * 4)).off + 2, none⟩ = some (.int .i64 v.to) := (HB6.out.cell (p := ⟨(ad.add (j * 4)).block, (ad.add (j * 4)).off + 2, none⟩) hBv).trans y2'; have y3 : w6.cell? ⟨(ad.add (j * 4)).block, (ad.add (j * 4)).off + 3, none⟩ = some (.int .i64 v.pr) := (HB6.out.cell (p := ⟨(ad.add (j * 4)).block, (ad.add (j * 4)).off + 3, none⟩) hBv).trans y3'; have hBv6 : (ad.add (j * 4)).block < w6.heap.size := (by omega))
                  | (go_at_call 14; (with_reducible refine (depth_k _ B (B + 1) B K v.id E HE (HS6.out.alloc _)).mono ?_); rintro e w7 ⟨rfl, hb7⟩; have hz7 : w6.heap.size < w7.heap.size := (by have hz := hb7.size; (try simp at hz); omega); have hz8 : wr.heap.size < w7.heap.size := (by omega); have u3 : w7.cell? ⟨wr.heap.size, 3, none⟩ = some (.int .i64 m.pr) := (hb7.cell (p := ⟨wr.heap.size, 3, none⟩) (by simp; omega)).trans ((World.cell?_alloc_past _ _ _ (show wr.heap.size < w6.heap.size from hz6)).trans z3); have u4 : w7.cell? ⟨w6.heap.size, 3, none⟩ = some (.int .i64 v.pr) := (hb7.cell (p := ⟨w6.heap.size, 3, none⟩) (by simp)).trans (by simp [go_sem]); have HB7 : Hid (Below w6.heap.size w6 w7) := ((Below.refl _ _).alloc (Nat.le_refl _) _).trans (hb7.mono (by simp)); clear hb7))
                go_roundw
                case rel => exact ⟨k + 1, _, 1, rfl, by omega, by go_num, rfl, by omega, HT2, HBX.out.trans ((HB6.out.trans (HB7.out.mono (by omega))).mono hxz)⟩
                case measure => simp [intOf]; omega
              · go_wp2_with (first
                  | (go_at_call 14; (with_reducible refine (depth_k _ B (B + 1) B K m.id 1 HD (hS5.alloc _)).mono ?_); rintro e w6 ⟨rfl, hb6⟩; have hz6 : wr.heap.size < w6.heap.size := (by have hz := hb6.size; (try simp at hz); omega); have z3 : w6.cell? ⟨wr.heap.size, 3, none⟩ = some (.int .i64 m.pr) := (hb6.cell (p := ⟨wr.heap.size, 3, none⟩) (by simp)).trans (by simp [go_sem]); have HB6 : Hid (Below wr.heap.size wr w6) := ((Below.refl _ _).alloc (Nat.le_refl _) _).trans (hb6.mono (by simp)); have HS6 := Lib.hid ((hS5.alloc _).below hb6); clear hb6; have y0 : w6.cell? (ad.add (j * 4)) = some (.int .i64 v.id) := (HB6.out.cell (p := (ad.add (j * 4))) hBv).trans y0'; have y1 : w6.cell? ⟨(ad.add (j * 4)).block, (ad.add (j * 4)).off + 1, none⟩ = some (.int .i64 v.fr) := (HB6.out.cell (p := ⟨(ad.add (j * 4)).block, (ad.add (j * 4)).off + 1, none⟩) hBv).trans y1'; have y2 : w6.cell? ⟨(ad.add (j * 4)).block, (ad.add (j * 4)).off + 2, none⟩ = some (.int .i64 v.to) := (HB6.out.cell (p := ⟨(ad.add (j * 4)).block, (ad.add (j * 4)).off + 2, none⟩) hBv).trans y2'; have y3 : w6.cell? ⟨(ad.add (j * 4)).block, (ad.add (j * 4)).off + 3, none⟩ = some (.int .i64 v.pr) := (HB6.out.cell (p := ⟨(ad.add (j * 4)).block, (ad.add (j * 4)).off + 3, none⟩) hBv).trans y3'; have hBv6 : (ad.add (j * 4)).block < w6.heap.size := (by omega))
                  | (go_at_call 14; (with_reducible refine (depth_k _ B (B + 1) B K v.id E HE (HS6.out.alloc _)).mono ?_); rintro e w7 ⟨rfl, hb7⟩; have hz7 : w6.heap.size < w7.heap.size := (by have hz := hb7.size; (try simp at hz); omega); have hz8 : wr.heap.size < w7.heap.size := (by omega); have u3 : w7.cell? ⟨wr.heap.size, 3, none⟩ = some (.int .i64 m.pr) := (hb7.cell (p := ⟨wr.heap.size, 3, none⟩) (by simp; omega)).trans ((World.cell?_alloc_past _ _ _ (show wr.heap.size < w6.heap.size from hz6)).trans z3); have u4 : w7.cell? ⟨w6.heap.size, 3, none⟩ = some (.int .i64 v.pr) := (hb7.cell (p := ⟨w6.heap.size, 3, none⟩) (by simp)).trans (by simp [go_sem]); have HB7 : Hid (Below w6.heap.size w6 w7) := ((Below.refl _ _).alloc (Nat.le_refl _) _).trans (hb7.mono (by simp)); clear hb7))
                go_roundw
                case rel => exact ⟨k + 1, _, 1, rfl, by omega, by go_num, rfl, by omega, HT2, HBX.out.trans ((HB6.out.trans (HB7.out.mono (by omega))).mono hxz)⟩
                case measure => simp [intOf]; omega
          · have hd1 : (D == 1) = false := by have h := HDD.out; simp; omega
            have hd2 : 2 ≤ D := by have h := HDD.out; omega
            have HT2 : Hid (TopN K (k + 1) tp) := by
              rcases HT.out with ⟨h, hf⟩ | ⟨h, i, hi, hi1⟩
              · refine .inl ⟨h, fun i hi => ?_⟩
                by_cases hik : i = k
                · subst hik; exact h1
                · exact hf i (by omega)
              · exact .inr ⟨h, i, by omega, hi1⟩
            clear h1
            by_cases hk0 : k = 0
            · subst hk0
              simp only [Nat.zero_mul, add_zero'] at e0 e1 e2 e3 hBw
              go_wp2_with (first
                | (go_at_call 14; (with_reducible refine (depth_k _ B (B + 1) B K m.id D HD (hS5.alloc _)).mono ?_); rintro e w6 ⟨rfl, hb6⟩; have hz6 : wr.heap.size < w6.heap.size := (by have hz := hb6.size; (try simp at hz); omega); have z3 : w6.cell? ⟨wr.heap.size, 3, none⟩ = some (.int .i64 m.pr) := (hb6.cell (p := ⟨wr.heap.size, 3, none⟩) (by simp)).trans (by simp [go_sem]); have HB6 : Hid (Below wr.heap.size wr w6) := ((Below.refl _ _).alloc (Nat.le_refl _) _).trans (hb6.mono (by simp)); have HS6 := Lib.hid ((hS5.alloc _).below hb6); clear hb6))
              go_roundw
              case rel => exact ⟨0 + 1, _, tp, rfl, by omega, by go_num, rfl, by omega, HT2, HBX.out.trans (HB6.out.mono hxz)⟩
              case measure => simp [intOf]; omega
            · have hk0' : ((k : Int) == 0) = false := by simp; omega
              obtain ⟨j, hj⟩ : ∃ j, k = j + 1 := ⟨k - 1, by omega⟩
              have hj1 : (k : Int) - 1 = (j : Int) := by omega
              have hj2 : IntKind.i64.wrap ((k : Int) - 1) = (j : Int) := by rw [hj1]; exact IntWalk.i64_in _ (by omega)
              have hjn : j < nK := by omega
              obtain ⟨ad2, v, hA2, hBv, Hv, y0', y1', y2', y3'⟩ := (HR4.out.below HBX.out).at_ hjn
              have hA3 : ad = ad2 := by injection hA2
              subst hA3
              have hBv : (ad.add (j * 4)).block < wr.heap.size := by omega
              obtain ⟨E, hE⟩ : ∃ E : Int, (DD K j : Int) = E := ⟨_, rfl⟩
              have hjK : j < K.length := by have := hkK.out; omega
              have HE : Hid ((depN [] K v.id : Int) = E) := by rw [Hid, DD_depN K j hjK hKid.out v Hv.out]; exact hE
              have hnx := DD_next hKid.out (k := j) (w := v) (m := m) (by have := hkK.out; omega) Hv.out (by rw [← hj]; exact Hm.out)
              rw [← hj] at hnx
              have hnx2 : (E < D ∧ m.pr ≤ v.pr) ∨ (D < E ∧ v.pr ≤ m.pr) := by have h := HDD.out; omega
              have hne : ((D : Int) == E) = false := by simp; omega
              clear hnx hE hj hA2
              rcases hnx2 with ⟨hc1, hc2⟩ | ⟨hc1, hc2⟩
              · go_wp2_with (first
                  | (go_at_call 14; (with_reducible refine (depth_k _ B (B + 1) B K m.id D HD (hS5.alloc _)).mono ?_); rintro e w6 ⟨rfl, hb6⟩; have hz6 : wr.heap.size < w6.heap.size := (by have hz := hb6.size; (try simp at hz); omega); have z3 : w6.cell? ⟨wr.heap.size, 3, none⟩ = some (.int .i64 m.pr) := (hb6.cell (p := ⟨wr.heap.size, 3, none⟩) (by simp)).trans (by simp [go_sem]); have HB6 : Hid (Below wr.heap.size wr w6) := ((Below.refl _ _).alloc (Nat.le_refl _) _).trans (hb6.mono (by simp)); have HS6 := Lib.hid ((hS5.alloc _).below hb6); clear hb6; have y0 : w6.cell? (ad.add (j * 4)) = some (.int .i64 v.id) := (HB6.out.cell (p := (ad.add (j * 4))) hBv).trans y0'; have y1 : w6.cell? ⟨(ad.add (j * 4)).block, (ad.add (j * 4)).off + 1, none⟩ = some (.int .i64 v.fr) := (HB6.out.cell (p := ⟨(ad.add (j * 4)).block, (ad.add (j * 4)).off + 1, none⟩) hBv).trans y1'; have y2 : w6.cell? ⟨(ad.add (j * 4)).block, (ad.add (j * 4)).off + 2, none⟩ = some (.int .i64 v.to) := (HB6.out.cell (p := ⟨(ad.add (j * 4)).block, (ad.add (j * 4)).off + 2, none⟩) hBv).trans y2'; have y3 : w6.cell? ⟨(ad.add (j * 4)).block, (ad.add (j * 4)).off + 3, none⟩ = some (.int .i64 v.pr) := (HB6.out.cell (p := ⟨(ad.add (j * 4)).block, (ad.add (j * 4)).off + 3, none⟩) hBv).trans y3'; have hBv6 : (ad.add (j * 4)).block < w6.heap.size := (by omega))
                  | (go_at_call 14; (with_reducible refine (depth_k _ B (B + 1) B K v.id E HE (HS6.out.alloc _)).mono ?_); rintro e w7 ⟨rfl, hb7⟩; have hz7 : w6.heap.size < w7.heap.size := (by have hz := hb7.size; (try simp at hz); omega); have hz8 : wr.heap.size < w7.heap.size := (by omega); have u3 : w7.cell? ⟨wr.heap.size, 3, none⟩ = some (.int .i64 m.pr) := (hb7.cell (p := ⟨wr.heap.size, 3, none⟩) (by simp; omega)).trans ((World.cell?_alloc_past _ _ _ (show wr.heap.size < w6.heap.size from hz6)).trans z3); have u4 : w7.cell? ⟨w6.heap.size, 3, none⟩ = some (.int .i64 v.pr) := (hb7.cell (p := ⟨w6.heap.size, 3, none⟩) (by simp)).trans (by simp [go_sem]); have HB7 : Hid (Below w6.heap.size w6 w7) := ((Below.refl _ _).alloc (Nat.le_refl _) _).trans (hb7.mono (by simp)); clear hb7))
                go_roundw
                case rel => exact ⟨k + 1, _, tp, rfl, by omega, by go_num, rfl, by omega, HT2, HBX.out.trans ((HB6.out.trans (HB7.out.mono (by omega))).mono hxz)⟩
                case measure => simp [intOf]; omega
              · go_wp2_with (first
                  | (go_at_call 14; (with_reducible refine (depth_k _ B (B + 1) B K m.id D HD (hS5.alloc _)).mono ?_); rintro e w6 ⟨rfl, hb6⟩; have hz6 : wr.heap.size < w6.heap.size := (by have hz := hb6.size; (try simp at hz); omega); have z3 : w6.cell? ⟨wr.heap.size, 3, none⟩ = some (.int .i64 m.pr) := (hb6.cell (p := ⟨wr.heap.size, 3, none⟩) (by simp)).trans (by simp [go_sem]); have HB6 : Hid (Below wr.heap.size wr w6) := ((Below.refl _ _).alloc (Nat.le_refl _) _).trans (hb6.mono (by simp)); have HS6 := Lib.hid ((hS5.alloc _).below hb6); clear hb6; have y0 : w6.cell? (ad.add (j * 4)) = some (.int .i64 v.id) := (HB6.out.cell (p := (ad.add (j * 4))) hBv).trans y0'; have y1 : w6.cell? ⟨(ad.add (j * 4)).block, (ad.add (j * 4)).off + 1, none⟩ = some (.int .i64 v.fr) := (HB6.out.cell (p := ⟨(ad.add (j * 4)).block, (ad.add (j * 4)).off + 1, none⟩) hBv).trans y1'; have y2 : w6.cell? ⟨(ad.add (j * 4)).block, (ad.add (j * 4)).off + 2, none⟩ = some (.int .i64 v.to) := (HB6.out.cell (p := ⟨(ad.add (j * 4)).block, (ad.add (j * 4)).off + 2, none⟩) hBv).trans y2'; have y3 : w6.cell? ⟨(ad.add (j * 4)).block, (ad.add (j * 4)).off + 3, none⟩ = some (.int .i64 v.pr) := (HB6.out.cell (p := ⟨(ad.add (j * 4)).block, (ad.add (j * 4)).off + 3, none⟩) hBv).trans y3'; have hBv6 : (ad.add (j * 4)).block < w6.heap.size := (by omega))
                  | (go_at_call 14; (with_reducible refine (depth_k _ B (B + 1) B K v.id E HE (HS6.out.alloc _)).mono ?_); rintro e w7 ⟨rfl, hb7⟩; have hz7 : w6.heap.size < w7.heap.size := (by have hz := hb7.size; (try simp at hz); omega); have hz8 : wr.heap.size < w7.heap.size := (by omega); have u3 : w7.cell? ⟨wr.heap.size, 3, none⟩ = some (.int .i64 m.pr) := (hb7.cell (p := ⟨wr.heap.size, 3, none⟩) (by simp; omega)).trans ((World.cell?_alloc_past _ _ _ (show wr.heap.size < w6.heap.size from hz6)).trans z3); have u4 : w7.cell? ⟨w6.heap.size, 3, none⟩ = some (.int .i64 v.pr) := (hb7.cell (p := ⟨w6.heap.size, 3, none⟩) (by simp)).trans (by simp [go_sem]); have HB7 : Hid (Below w6.heap.size w6 w7) := ((Below.refl _ _).alloc (Nat.le_refl _) _).trans (hb7.mono (by simp)); clear hb7))
                go_roundw
                case rel => exact ⟨k + 1, _, tp, rfl, by omega, by go_num, rfl, by omega, HT2, HBX.out.trans ((HB6.out.trans (HB7.out.mono (by omega))).mono hxz)⟩
                case measure => simp [intOf]; omega
        · have hkn : k = nK := by omega
          subst hkn
          have HBX := Lib.hid hbx
          have hxz := hbx.size
          clear hbx
          by_cases h0 : k = 0
          · have ht0 : tp = 0 := by
              rcases HT.out with ⟨h, _⟩ | ⟨_, i, hi, _⟩
              · exact h
              · omega
            subst ht0
            have hk0 : ((k : Int) > 0) = False := by simp; omega
            have hk1 : decide ((k : Int) > 0) = false := by simp; omega
            go_wp2_with (go_at_call 17; (with_reducible refine (known_any _).mono ?_); rintro e w9 ⟨rfl, hb9⟩)
            go_ret
            exact ⟨rfl, HB1.out.trans ((HB2.out.trans (HB4.out.trans ((HBX.out.trans (hb9.mono hxz)).mono HS4.out.size.2.2))).mono hBz)⟩
          · have ht1 : tp = 1 := by
              rcases HT.out with ⟨_, hf⟩ | ⟨h, _⟩
              · obtain ⟨i, hi, hi1⟩ := DD_one_exists K hKid.out (by have := HNK.out; omega)
                exact absurd hi1 (hf i (by have := HNK.out; omega))
              · exact h
            subst ht1
            have hk1 : decide ((k : Int) > 0) = true := by simp; omega
            go_wp2_with (go_at_call 17; (with_reducible refine (known_any _).mono ?_); rintro e w9 ⟨rfl, hb9⟩)
            go_ret
            exact ⟨rfl, HB1.out.trans ((HB2.out.trans (HB4.out.trans ((HBX.out.trans (hb9.mono hxz)).mono HS4.out.size.2.2))).mono hBz)⟩
end Go.Proofs.Ytkibhinpbpgkeaa
