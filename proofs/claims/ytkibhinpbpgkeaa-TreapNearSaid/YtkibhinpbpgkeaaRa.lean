/- The reference's set in memory; the walks of Find, put, take. -/
import Derived.Test.YtkibhinpbpgkeaaZ
namespace Go.Proofs.Ytkibhinpbpgkeaa
open Go.RowKit Go.ChangeMaps
attribute [local go_sem ↓] Go.wp_at_zero Go.wp_at_succ

/-- The reference's set lies at block r: a slice with the marks K. -/
structure RefIn (W : World) (r : Nat) (A : Option Addr) (n c : Nat) (K : List Mk) : Prop where
  top : W.heap[r]? = some (.cells #[.slice A n c] 40 (0, 0))
  rd : RdM W W.heap.size A n K
  cap : n ≤ c
  max : c ≤ maxLen
  ne : ∀ ad, A = some ad → ad.block ≠ r
  ltA : ∀ ad, A = some ad → ad.block < W.heap.size
section
variable {W W' : World} {r n c : Nat} {A : Option Addr} {K : List Mk} {F : List Nat}
theorem RefIn.lt (h : RefIn W r A n c K) : r < W.heap.size := heap_lt h.top
theorem RefIn.len (h : RefIn W r A n c K) : K.length = n := h.rd.1
theorem RefIn.below (h : RefIn W r A n c K) (hb : Below W.heap.size W W') : RefIn W' r A n c K :=
  ⟨(hb.block r h.lt).trans h.top, (h.rd.below hb).more hb.size, h.cap, h.max, h.ne, fun ad e => Nat.lt_of_lt_of_le (h.ltA ad e) hb.size⟩
theorem RefIn.cell (h : RefIn W r A n c K) : W.cell? ⟨r, 0, none⟩ = some (.slice A n c) := cell_of_row W r 0 _ _ _ h.top
theorem RefIn.free (h : RefIn W r A n c K) : W.frozen? ⟨r, 0, none⟩ = false := frozen_of_row W r 0 _ _ h.top
theorem RdM.chg {B : Nat} (h : RdM W B A n K) (hc : Chg F W W') (hB : B ≤ W.heap.size) (hn : ∀ ad, A = some ad → ad.block ∉ F) : RdM W' B A n K :=
  ⟨h.1, fun k hk => by
    obtain ⟨ad, e, hb, hx⟩ := h.2 k hk
    refine ⟨ad, e, hb, fun j hj => ?_⟩
    have hblk : (ad.add (k * 4 + j)).block = ad.block := block_add' _ _
    have hh : W'.heap[(ad.add (k * 4 + j)).block]? = W.heap[(ad.add (k * 4 + j)).block]? := by rw [hblk]; exact hc.block _ (by omega) (hn ad e)
    have hcell : W'.cell? (ad.add (k * 4 + j)) = W.cell? (ad.add (k * 4 + j)) := by unfold World.cell?; rw [hh]
    exact hcell.trans (hx j hj)⟩
theorem RefIn.chg (h : RefIn W r A n c K) (hc : Chg F W W') (hr : r ∉ F) (hn : ∀ ad, A = some ad → ad.block ∉ F) : RefIn W' r A n c K :=
  ⟨(hc.block r h.lt hr).trans h.top, (h.rd.chg hc (Nat.le_refl _) hn).more hc.size, h.cap, h.max, h.ne, fun ad e => Nat.lt_of_lt_of_le (h.ltA ad e) hc.size⟩
end
/-- What a deed leaves. -/
def RefLeft (W : World) (r : Nat) (A : Option Addr) (K : List Mk) (w' : World) : Prop :=
  ∃ A' n' c', RefIn w' r A' n' c' K ∧ (∀ ad, A' = some ad → A = some ad ∨ W.heap.size ≤ ad.block) ∧ Chg [r] W w'
theorem RefLeft.same {W w' : World} {r n c : Nat} {A : Option Addr} {K : List Mk} (h : RefIn W r A n c K) (hb : Below W.heap.size W w') : RefLeft W r A K w' :=
  ⟨A, n, c, h.below hb, fun _ e => .inl e, Chg.of_below hb⟩

/-- Where a mark stands; -1. -/
def fidx (K : List Mk) (i : Int) : Int := if hasB K i = true then (K.findIdx (·.id == i) : Int) else -1
theorem getD_get {K : List Mk} {k : Nat} (hk : k < K.length) : K.getD k ⟨0, 0, 0, 0⟩ = K[k] := by simp [List.getD, hk]
theorem fidx_at {K : List Mk} {i : Int} {k : Nat} (hk : k < K.length) (h1 : ∀ j, j < k → (K.getD j ⟨0, 0, 0, 0⟩).id ≠ i) (h2 : (K.getD k ⟨0, 0, 0, 0⟩).id = i) : fidx K i = k := by
  rw [getD_get hk] at h2
  have e : K.findIdx (·.id == i) = k := by
    rw [List.findIdx_eq hk]
    refine ⟨by simpa using h2, fun j hj => ?_⟩
    have := h1 j hj
    rw [getD_get (by omega)] at this
    simpa using this
  have hh : hasB K i = true := by
    simp only [hasB, List.any_eq_true]
    exact ⟨K[k], List.getElem_mem hk, by simpa using h2⟩
  rw [fidx, if_pos hh, e]
theorem fidx_none {K : List Mk} {i : Int} (h : ∀ j, j < K.length → (K.getD j ⟨0, 0, 0, 0⟩).id ≠ i) : fidx K i = -1 := by
  have hh : hasB K i = false := by
    refine no_has fun x hx => ?_
    obtain ⟨j, hj, rfl⟩ := List.getElem_of_mem hx
    have := h j hj
    rwa [getD_get hj] at this
  rw [fidx, if_neg (by rw [hh]; simp)]
theorem fidx_hit {K : List Mk} {i : Int} (h : hasB K i = true) : ∃ k m, k < K.length ∧ K.getD k ⟨0, 0, 0, 0⟩ = m ∧ m.id = i ∧ fidx K i = k := by
  have hx : K.findIdx (·.id == i) < K.length := by
    rw [List.findIdx_lt_length]
    obtain ⟨m, hm, rfl⟩ := hasB_true h
    exact ⟨m, hm, by simp⟩
  refine ⟨_, _, hx, rfl, ?_, by rw [fidx, if_pos h]⟩
  rw [getD_get hx]
  have := List.findIdx_getElem (w := hx)
  simpa using this
theorem fidx_miss {K : List Mk} {i : Int} (h : hasB K i = false) : fidx K i = -1 := by rw [fidx, if_neg (by rw [h]; simp)]

set_option maxHeartbeats 400000 in
theorem find_any (W : World) (r : Nat) (A : Option Addr) (n c : Nat) (K : List Mk) (i v : Int) (hv : Hid (fidx K i = v)) (h : RefIn W r A n c K) (hn : n ≤ 1000) :
    Calls Try.prog 34 #[.pointer (some ⟨r, 0, none⟩), .int .i64 i] W fun e w' => e = .returned (.int .i64 v) ∧ W = w' := by
  have c0 := h.cell
  have hl := h.len
  have HR := Lib.hid h.rd
  have HL := Lib.hid hl
  clear h hl
  go_enter Try.func34, Try.ntmps34
  go_wp2
  go_loop [5] (fun x => ∃ k : Nat, k ≤ n ∧ x = .int .i64 k ∧ Hid (∀ j, j < k → (K.getD j ⟨0, 0, 0, 0⟩).id ≠ i)) (fun x => n - (intOf x).toNat)
  case atStart => exact ⟨0, Nat.zero_le _, rfl, fun j hj => by omega⟩
  case round =>
    obtain ⟨k, hk, rfl, Hk⟩ := hrel
    by_cases hlt : k < n
    · obtain ⟨ad, m, rfl, hB, Hm, e0, e1, e2, e3⟩ := HR.out.at_ hlt
      by_cases he : m.id = i
      · have hb : (m.id == i) = true := by simpa using he
        have hf : fidx K i = k := fidx_at (by rw [HL.out]; exact hlt) Hk.out (by rw [Hm.out]; exact he)
        have hvk : v = k := by rw [← hf, hv.out]
        subst hvk
        clear he hf
        go_wp2
        go_ret
        exact ⟨rfl, rfl⟩
      · have hb : (m.id == i) = false := by simpa using he
        have HN : Hid (∀ j, j < k + 1 → (K.getD j ⟨0, 0, 0, 0⟩).id ≠ i) := fun j hj => by
          by_cases hjk : j = k
          · subst hjk; rw [Hm.out]; exact he
          · exact Hk.out j (by omega)
        clear he
        go_wp2
        go_round
        case rel => exact ⟨k + 1, by omega, by go_num, HN⟩
        case measure => simp [intOf]; omega
    · have hkn : k = n := by omega
      subst hkn
      have hf : v = -1 := by rw [← hv.out]; exact fidx_none fun j hj => Hk.out j (by rw [← HL.out]; exact hj)
      subst hf
      go_wp2
      go_ret
      exact ⟨rfl, rfl⟩

/-- Where a mark goes in. -/
theorem ins_at {K : List Mk} {m : Mk} {k : Nat} (h1 : ∀ j, j < k → lt (K.getD j ⟨0, 0, 0, 0⟩) m = true) (hk : k ≤ K.length) (h2 : k < K.length → lt (K.getD k ⟨0, 0, 0, 0⟩) m = false) : ins K m = K.take k ++ m :: K.drop k := by
  conv => lhs; rw [← List.take_append_drop k K]
  rw [ins_pass]
  · by_cases hlt : k < K.length
    · have h := h2 hlt
      rw [getD_get hlt] at h
      have e := List.drop_eq_getElem_cons hlt
      rw [e]
      simp only [ins, List.takeWhile_cons, h, List.dropWhile_cons]
      rfl
    · rw [List.drop_of_length_le (by omega)]
      rfl
  · intro x hx
    obtain ⟨j, hj, rfl⟩ := List.getElem_of_mem hx
    simp only [List.length_take] at hj
    have h := h1 j (by omega)
    rw [getD_get (by omega)] at h
    rw [List.getElem_take]
    exact h
theorem del_at {K : List Mk} {m : Mk} {k : Nat} (hid : Ids K) (hk : k < K.length) (hm : K.getD k ⟨0, 0, 0, 0⟩ = m) : K.take k ++ K.drop (k + 1) = del K m.id := by
  have hs := split_at K k hk
  rw [hm] at hs
  have hsp := ids_split (hs ▸ hid)
  conv => rhs; rw [hs]
  rw [del_append, del_cons_eq _ _ _ rfl, del_none _ _ hsp.1, del_none _ _ hsp.2.1]
theorem elem22 : Try.prog.underlying 22 = some (.slice (Try.prog.elem 22)) := by kernel_rfl
theorem size30 (w : World) : (sizeOf (Try.prog.elem 22)).run Try.prog w = .ok 4 w := by kernel_rfl
theorem slice_from (A : Option Addr) (n c k : Nat) (hk : k ≤ n) (hc : n ≤ c) :
    ∃ A2, (∀ w, (Instr.slice 22 (.slice A n c) (some (.int .i64 (k : Int))) none none).run Try.prog w = .ok (.slice A2 (n - k) (c - k)) w) ∧
      ∀ (W : World) (B : Nat) (xs : List Value), Rds W B 4 A n xs → Rds W B 4 A2 (n - k) (xs.drop (k * 4)) := by
  refine ⟨if c = k then A else A.map (·.add (k * 4)), fun w => ?_, fun W B xs h => ?_⟩
  · rw [run_slice_l (t := 22) w A n c elem22 .i64 (k : Int) (by omega) (by omega), size30]
    simp [Result.andThen, sliced]
  · have h1 := h.cut (k := k) (m := n) hk (Nat.le_refl _) hc
    rw [List.take_of_length_le (by have := h.1; simp; omega)] at h1
    simpa using h1
theorem slice_to (A : Option Addr) (n c k : Nat) (hk : k ≤ c) : ∀ w, (Instr.slice 22 (.slice A n c) none (some (.int .i64 (k : Int))) none).run Try.prog w = .ok (.slice A k c) w := by
  intro w
  rw [run_slice_h (t := 22) w A n c elem22 .i64 (k : Int) (by omega) (by omega), size30]
  have e : (A.map fun x => x.add 0) = A := by cases A <;> rfl
  simp [Result.andThen, sliced, e]
theorem cells4_take (K : List Mk) (k : Nat) : (cells4 K).take (k * 4) = cells4 (K.take k) := by
  induction K generalizing k with
  | nil => simp [cells4]
  | cons m K ih =>
    cases k with
    | zero => simp [cells4]
    | succ k =>
      have e : cells4 (m :: K) = [.int .i64 m.id, .int .i64 m.fr, .int .i64 m.to, .int .i64 m.pr] ++ cells4 K := rfl
      have e2 : cells4 (m :: K.take k) = [.int .i64 m.id, .int .i64 m.fr, .int .i64 m.to, .int .i64 m.pr] ++ cells4 (K.take k) := rfl
      rw [List.take_succ_cons, e, e2, ← ih k, show (k + 1) * 4 = k * 4 + 1 + 1 + 1 + 1 from by omega]
      simp only [List.cons_append, List.nil_append, List.take_succ_cons]
theorem cells4_drop (K : List Mk) (k : Nat) : (cells4 K).drop (k * 4) = cells4 (K.drop k) := by
  have h1 := cells4_append (K.take k) (K.drop k)
  rw [List.take_append_drop, ← cells4_take] at h1
  exact List.append_cancel_left ((List.take_append_drop (k * 4) (cells4 K)).trans h1)
theorem RdM.rds {W : World} {B n : Nat} {A : Option Addr} {K : List Mk} (h : RdM W B A n K) : Rds W B 4 A n (cells4 K) := by
  refine ⟨by rw [cells4_len, h.1], fun j hj => ?_⟩
  rw [cells4_len, h.1] at hj
  obtain ⟨ad, e, hb, hx⟩ := h.2 (j / 4) (by omega)
  refine ⟨ad, e, hb, ?_⟩
  have h1 := hx (j % 4) (by omega)
  have h2 := cells4_at K (j / 4) (j % 4) (by rw [h.1]; omega) (by omega)
  rw [show j / 4 * 4 + j % 4 = j from by omega] at h1 h2
  rw [h1, h2]
  rfl
end Go.Proofs.Ytkibhinpbpgkeaa
