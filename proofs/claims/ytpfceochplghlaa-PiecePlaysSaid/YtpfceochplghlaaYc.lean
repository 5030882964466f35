/- The walks of Clean, Spoil, Within. -/
import Derived.Test.YtpfceochplghlaaYb
namespace Go.Proofs.Ytpfceochplghlaa
open Go.RowKit
attribute [local go_sem ↓] Go.wp_at_zero Go.wp_at_succ

/-- A number of a row that the call owns. -/
theorem irow_at {w : World} {base n c k : Nat} {A : Option Addr} {zs : List Int} (h : w.ownsRow base 21 1 (.slice A n c) n (zs.map (Value.int .i32))) (hk : k < n) :
    ∃ (g : Nat) (x : Int), A = some ⟨g, 0, none⟩ ∧ base ≤ g ∧ g < w.heap.size ∧ Hid (x = zs.getD k 0) ∧ w.cell? ⟨g, k, none⟩ = some (.int .i32 x) ∧ w.frozen? ⟨g, k, none⟩ = false := by
  rcases own_row h with ⟨_, h0, _⟩ | ⟨g, cur, rfl, hb, hg, hl, hnc, hm, ht⟩
  · omega
  · have hz : zs.length = n := by have h1 := h.1; simpa using h1
    refine ⟨g, zs.getD k 0, rfl, hb, (Array.getElem?_eq_some_iff.1 hg).1, rfl, ?_, frozen_of_row w g k _ _ hg⟩
    rw [h.cellAt k (by omega), ints_at zs (by omega)]
theorem own_seti {W : World} {base n c k g : Nat} {zs : List Int} (h : W.ownsRow base 21 1 (.slice (some ⟨g, 0, none⟩) n c) n (zs.map (Value.int .i32))) (v : Int) :
    (W.setCell ⟨g, k, none⟩ (.int .i32 v)).ownsRow base 21 1 (.slice (some ⟨g, 0, none⟩) n c) n ((zs.set k v).map (Value.int .i32)) := by
  rcases own_row h with ⟨he, _⟩ | ⟨g', cur, e, hb, hg, hl, hnc, hm, ht⟩
  · cases he
  · injection e with e
    injection e with e
    subst e
    have hs := heap_setCell_same W g k cur.toArray 21 (.int .i32 v) hg
    refine own_mk (cur := cur.set k (.int .i32 v)) hb (by simpa using hs) (by simpa using hl) hnc hm ?_
    rw [List.take_set, ht, List.map_set]

def cl (z : Int) : Int := if sgB z then z else 110
def cleanL (zs : List Int) : List Int := zs.map cl
theorem cleanL_len (zs : List Int) : (cleanL zs).length = zs.length := by simp [cleanL]
theorem cl_sg (z : Int) : sgB (cl z) = true := by
  unfold cl
  split
  · assumption
  · rfl
theorem may_clean (zs : List Int) : mayB (cleanL zs) = true := by
  simp only [mayB, cleanL, List.all_map, List.all_eq_true]
  intro x _
  exact cl_sg x
theorem clean_step {zs : List Int} {k : Nat} (hk : k < zs.length) {x : Int} (hx : x = zs.getD k 0) : cleanL (zs.take (k + 1)) ++ zs.drop (k + 1) = (cleanL (zs.take k) ++ zs.drop k).set k (cl x) := by
  have e : zs.getD k 0 = zs[k] := by simp [List.getD, hk]
  rw [List.take_succ_eq_append_getElem hk, hx, e]
  have h2 : zs.drop k = zs[k] :: zs.drop (k + 1) := List.drop_eq_getElem_cons hk
  rw [h2]
  have hl : (cleanL (zs.take k)).length = k := by rw [cleanL_len, List.length_take]; omega
  rw [List.set_append_right _ _ (by omega), hl, Nat.sub_self, List.set_cons_zero]
  simp only [cleanL, List.map_append, List.map_cons, List.map_nil, List.append_assoc, List.cons_append, List.nil_append]
theorem clean_at {zs : List Int} {k : Nat} (hk : k < zs.length) : (cleanL (zs.take k) ++ zs.drop k).getD k 0 = zs.getD k 0 := by
  have hl : (cleanL (zs.take k)).length = k := by rw [cleanL_len, List.length_take]; omega
  simp [List.getD, List.getElem?_append_right (show (cleanL (zs.take k)).length ≤ k by omega), hl, List.getElem?_drop]

set_option maxHeartbeats 1000000 in
theorem clean_any (W : World) (A : Option Addr) (n c : Nat) (zs : List Int) (hr : Rds W W.heap.size 1 A n (zs.map (Value.int .i32))) (hn : n ≤ 20000) :
    Calls Try.prog 16 #[.slice A n c] W fun e w' => ∃ v, e = .returned v ∧ w'.ownsRow W.heap.size 21 1 v n ((cleanL zs).map (Value.int .i32)) ∧ Below W.heap.size W w' := by
  obtain ⟨i0, hi0, hz0, hz1, hz2⟩ := info_parts info21
  have HZ := Lib.hid hr.int_len
  have HR := Lib.hid hr
  clear hr
  go_enter Try.func16, Try.ntmps16
  go_wp2_with (at_builtin; refine append_rds rfl (.const (.slice none 0 0)) (.tmp 5) 23 rfl W.heap.size 21 i0 _ 1 4 Try.underlying23 hi0 hz0 hz1 hz2 rfl (by omega) (.slice none 0 0) 0 [] rfl (World.ownsRow_nil _ _ _ _) W.heap.size A n c _ rfl HR.out (oneCell_ints _) (by simp only [maxLen]; omega) (by omega) (Nat.le_refl _) ?_)
  intro v1 w1 hown1 hg1 hat1
  have hb1 : Below W.heap.size W w1 := (Below.refl _ _).grown hg1 (Nat.le_refl _) (by simp [Value.ownBlock])
  try simp only [Nat.zero_add, List.nil_append] at hown1
  obtain ⟨A1, c1, rfl, _, _⟩ := own_form hown1
  have HO1 : Hid (w1.ownsRow W.heap.size 21 1 (.slice A1 n c1) n ((cleanL (zs.take 0) ++ zs.drop 0).map (Value.int .i32))) := hown1
  have HB1 := Lib.hid hb1
  clear hg1 hat1 hb1 hown1
  go_wp2
  go_loopw [4] (fun i wr => ∃ (k : Nat) (w0 : World), w0 = wr ∧ k ≤ n ∧ i = .int .i64 k ∧ Hid (wr.ownsRow W.heap.size 21 1 (.slice A1 n c1) n ((cleanL (zs.take k) ++ zs.drop k).map (Value.int .i32))) ∧ Hid (Below W.heap.size W wr)) (fun i _ => n - (intOf i).toNat)
  case atStart => exact ⟨0, _, rfl, Nat.zero_le _, rfl, HO1.out, HB1.out⟩
  case round =>
    obtain ⟨k, wr, rfl, hk, rfl, HO, HB⟩ := hrel
    by_cases hlt : k < n
    · obtain ⟨g, x, rfl, hgb, hgl, HX, hcx, hfx⟩ := irow_at HO.out hlt
      have HX2 : Hid (x = zs.getD k 0) := HX.out.trans (clean_at (by rw [HZ.out]; exact hlt))
      have HST := Lib.hid (clean_step (by rw [HZ.out]; exact hlt) HX2.out)
      have hJ1 : (0 : Int) ≤ (k : Int) ∧ (k : Int) < (n : Int) := by omega
      obtain ⟨hJ1a, hJ1b⟩ := hJ1
      by_cases hs : sgB x = true
      · have HS := Lib.hid hs
        clear hs
        go_wp2_with (go_at_call 9; (with_reducible refine (sign_v x true HS _).mono ?_); rintro e w' ⟨rfl, rfl⟩)
        go_roundw
        case rel =>
          refine ⟨k + 1, _, rfl, by omega, by go_num, ?_, HB.out⟩
          have e : cl x = x := by simp [cl, HS.out]
          have hl : (cleanL (zs.take k) ++ zs.drop k).length = n := by rw [List.length_append, cleanL_len, List.length_take, List.length_drop]; have := HZ.out; omega
          have e2 : (cleanL (zs.take k) ++ zs.drop k).set k x = cleanL (zs.take k) ++ zs.drop k := by
            have h1 := HX.out
            have h3 : (cleanL (zs.take k) ++ zs.drop k).getD k 0 = (cleanL (zs.take k) ++ zs.drop k)[k]'(by omega) := by simp only [List.getD]; rw [List.getElem?_eq_getElem (by omega)]; rfl
            rw [h1, h3, List.set_getElem_self]
          show Hid _
          rw [HST.out, e, e2]
          exact HO.out
        case measure => simp [intOf]; omega
      · have hs' : sgB x = false := by simpa using hs
        have HS := Lib.hid hs'
        clear hs hs'
        go_wp2_with (go_at_call 9; (with_reducible refine (sign_v x false HS _).mono ?_); rintro e w' ⟨rfl, rfl⟩)
        go_roundw
        case rel =>
          refine ⟨k + 1, _, rfl, by omega, by go_num, ?_, HB.out.setCell hgb _⟩
          have e : cl x = 110 := by simp [cl, HS.out]
          show Hid _
          rw [HST.out, e]
          exact own_seti HO.out 110
        case measure => simp [intOf]; omega
    · have hkn : k = n := by omega
      have HO' : Hid (wr.ownsRow W.heap.size 21 1 (.slice A1 n c1) n ((cleanL zs).map (Value.int .i32))) := by
        have h1 := HO.out
        rw [List.take_of_length_le (by rw [HZ.out]; omega), List.drop_of_length_le (by rw [HZ.out]; omega), List.append_nil] at h1
        exact h1
      go_wp2
      go_ret
      exact ⟨_, rfl, HO'.out, HB.out⟩

set_option maxHeartbeats 1000000 in
/-- What is written over is another's no more; all else stays. -/
theorem spoil_any (W : World) (base : Nat) (A : Option Addr) (n m c : Nat) (zs : List Int) (h : W.ownsRow base 21 1 (.slice A m c) m (zs.map (Value.int .i32))) (hn : n ≤ m) (hm : m ≤ 9223372036854775807) :
    Calls Try.prog 30 #[.slice A n c] W fun e w' => e = .returned (.tuple #[]) ∧ Chg (blk A) W w' := by
  have HO0 := Lib.hid h
  clear h
  go_enter Try.func30, Try.ntmps30
  go_wp2
  go_loopw [2] (fun i wr => ∃ (k : Nat) (ys : List Int) (w0 : World), w0 = wr ∧ k ≤ n ∧ i = .int .i64 k ∧ Hid (wr.ownsRow base 21 1 (.slice A m c) m (ys.map (Value.int .i32))) ∧ Hid (Chg (blk A) W wr)) (fun i _ => n - (intOf i).toNat)
  case atStart => exact ⟨0, zs, _, rfl, Nat.zero_le _, rfl, HO0.out, Chg.refl _ _⟩
  case round =>
    obtain ⟨k, ys, wr, rfl, hk, rfl, HO, HB⟩ := hrel
    by_cases hlt : k < n
    · obtain ⟨g, x, rfl, hgb, hgl, HX, hcx, hfx⟩ := irow_at HO.out (show k < m by omega)
      have hJ1 : (0 : Int) ≤ (k : Int) ∧ (k : Int) < (n : Int) := by omega
      obtain ⟨hJ1a, hJ1b⟩ := hJ1
      go_wp2
      go_roundw
      case rel => exact ⟨k + 1, _, _, rfl, by omega, by go_num, own_seti HO.out (-9), HB.out.setCell (.inl (by simp [blk])) _⟩
      case measure => simp [intOf]; omega
    · go_wp2
      go_end0
      exact ⟨rfl, HB.out⟩
theorem within_v (l : Nat) (a k : Int) (v : Bool) (hv : Hid (thereB l a k = v)) (hl : l ≤ 9223372036854775807) (W : World) : Calls Try.prog 23 #[.int .i64 l, .int .i64 a, .int .i64 k] W fun e w' => e = .returned (.bool v) ∧ W = w' := by
  rw [← hv.out]
  clear hv
  by_cases h0 : 0 ≤ a ∧ a ≤ l
  · have hw : IntKind.i64.wrap ((l : Int) - a) = (l : Int) - a := IntWalk.i64_in _ (by omega)
    obtain ⟨h1, h2⟩ := h0
    go_enter Try.func23, Try.ntmps23
    go_wp2
    all_goals
      go_ret
      exact ⟨ret_bool (by rw [Bool.eq_iff_iff]; simp [thereB]; try omega), rfl⟩
  · have hb : thereB l a k = false := by simp only [thereB, decide_eq_false_iff_not]; omega
    rw [hb]
    by_cases h1 : 0 ≤ a
    · have h2 : ¬ a ≤ (l : Int) := by omega
      clear h0 hb
      go_enter Try.func23, Try.ntmps23
      go_wp2
      all_goals
        go_ret
        exact ⟨rfl, rfl⟩
    · clear h0 hb
      go_enter Try.func23, Try.ntmps23
      go_wp2
      all_goals
        go_ret
        exact ⟨rfl, rfl⟩
end Go.Proofs.Ytpfceochplghlaa
