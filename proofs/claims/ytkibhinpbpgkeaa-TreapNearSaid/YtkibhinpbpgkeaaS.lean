/- The walks of marks, Index, sameMarks. -/
import Derived.Test.YtkibhinpbpgkeaaR
namespace Go.Proofs.Ytkibhinpbpgkeaa
open Go.RowKit Go.ChangeMaps

theorem mask_le (k : Int) (q : Nat) (hq : q ≤ 4294967295) : 0 ≤ bits BinOp.and IntKind.i64 k q ∧ bits BinOp.and IntKind.i64 k q ≤ q := by
  have h : (BitVec.ofInt 64 k &&& BitVec.ofInt 64 q).toNat ≤ q := by
    rw [BitVec.toNat_and]
    refine Nat.le_trans Nat.and_le_right ?_
    have : (BitVec.ofInt 64 (q : Int)).toNat = q := by
      rw [BitVec.toNat_ofInt]
      omega
    omega
  have e : bits BinOp.and IntKind.i64 k q = IntKind.i64.wrap ((BitVec.ofInt 64 k &&& BitVec.ofInt 64 q).toNat : Int) := rfl
  rw [e, IntKind.wrap_i64]
  omega
theorem heap_two (w : World) (o o' : Obj) : (((w.alloc o).drew.drew).alloc o').heap[w.heap.size + 1]? = some o' := by
  have h := heap_new ((w.alloc o).drew.drew) o'
  rw [show ((w.alloc o).drew.drew).heap.size = w.heap.size + 1 from by simp] at h
  exact h
/-- Marks that may be, of few numbers. -/
def MarksOk (M : List Mk) : Prop := M.length ≤ 30 ∧ ∀ i (h : i < M.length), M[i].id = i ∧ 0 ≤ M[i].fr ∧ M[i].fr ≤ 31 ∧ M[i].fr ≤ M[i].to ∧ M[i].to ≤ M[i].fr + 15 ∧ 0 ≤ M[i].pr ∧ M[i].pr ≤ 7
theorem RdM.below {W w : World} {B n : Nat} {A : Option Addr} {L : List Mk} (h : RdM W B A n L) (hb : Below B W w) : RdM w B A n L :=
  ⟨h.1, fun k hk => by
    obtain ⟨ad, e, hB, hc⟩ := h.2 k hk
    exact ⟨ad, e, hB, fun j hj => (hb.cell (by rw [block_add']; exact hB)).trans (hc j hj)⟩⟩
theorem add_field (ad : Addr) (q j : Nat) (hj : 0 < j) : (⟨(ad.add q).block, (ad.add q).off + j, none⟩ : Addr) = ad.add (q + j) := by
  unfold Addr.add
  by_cases hq : q = 0
  · subst hq
    rw [if_pos rfl, if_neg (by omega)]
    simp
  · rw [if_neg hq, if_neg (by omega)]
    simp [Nat.add_assoc]
theorem RdM.at_ {W : World} {B n k : Nat} {A : Option Addr} {L : List Mk} (h : RdM W B A n L) (hk : k < n) : ∃ (ad : Addr) (m : Mk), A = some ad ∧ (ad.add (k * 4)).block < B ∧ Hid (L.getD k ⟨0, 0, 0, 0⟩ = m) ∧
    W.cell? (ad.add (k * 4)) = some (.int .i64 m.id) ∧ W.cell? ⟨(ad.add (k * 4)).block, (ad.add (k * 4)).off + 1, none⟩ = some (.int .i64 m.fr) ∧ W.cell? ⟨(ad.add (k * 4)).block, (ad.add (k * 4)).off + 2, none⟩ = some (.int .i64 m.to) ∧ W.cell? ⟨(ad.add (k * 4)).block, (ad.add (k * 4)).off + 3, none⟩ = some (.int .i64 m.pr) := by
  obtain ⟨ad, e, hB, hc⟩ := h.2 k hk
  refine ⟨ad, _, e, by rw [block_add']; exact hB, rfl, hc 0 (by omega), ?_, ?_, ?_⟩
  · rw [add_field _ _ _ (by omega)]; exact hc 1 (by omega)
  · rw [add_field _ _ _ (by omega)]; exact hc 2 (by omega)
  · rw [add_field _ _ _ (by omega)]; exact hc 3 (by omega)

set_option maxHeartbeats 1000000 in
theorem marks_any (W : World) (A : Option Addr) (n c : Nat) (L : List Mk) (hL : RdM W W.heap.size A n L) (_hn : n ≤ 9223372036854775807) :
    Calls Try.prog 9 #[.slice A n c] W fun e w' => ∃ M A' p, MarksOk M ∧ e = .returned (.slice A' M.length p) ∧ w'.ownsRow W.heap.size 30 4 (.slice A' M.length p) M.length (cells4 M) ∧ Below W.heap.size W w' := by
  obtain ⟨i0, hi0, hz0, hz1, hz2⟩ := info_parts info30
  go_enter Try.func9, Try.ntmps9
  go_wp2
  go_loopw [3, 4] (fun o i wr => ∃ (k : Nat) (w0 : World) (M : List Mk) (Ao : Option Addr) (po : Nat), w0 = wr ∧ k ≤ n ∧ k ≤ 30 ∧ i = .int .i64 k ∧ o = .slice Ao k po ∧ M.length = k ∧ Hid (MarksOk M) ∧ Hid (wr.ownsRow W.heap.size 30 4 (.slice Ao k po) k (cells4 M)) ∧ Below W.heap.size W wr) (fun _ i _ => 30 - (intOf i).toNat)
  case atStart => exact ⟨0, _, [], none, 0, rfl, Nat.zero_le _, by omega, rfl, rfl, rfl, ⟨by simp, fun i h => absurd h (by simp)⟩, World.ownsRow_nil _ _ _ _, Below.refl _ _⟩
  case round =>
    obtain ⟨k, wr, M, Ao, po, rfl, hk, hk30, rfl, rfl, hM, HM, HO, hbx⟩ := hrel
    have hxz := hbx.size
    by_cases hlt : k < n ∧ k < 30
    · obtain ⟨hkn, hk3⟩ := hlt
      have hk3' : decide ((k : Int) < 30) = true := by simp; omega
      obtain ⟨ad, m, rfl, hB, Hm, e0, e1, e2, e3⟩ := (hL.below hbx).at_ hkn
      have HBX := Lib.hid hbx
      have hBw : (ad.add (k * 4)).block < wr.heap.size := by omega
      clear hbx hL
      obtain ⟨b1, hb1⟩ : ∃ v, bits BinOp.and IntKind.i64 m.fr 31 = v := ⟨_, rfl⟩
      obtain ⟨b2, hb2⟩ : ∃ v, bits BinOp.and IntKind.i64 m.to 15 = v := ⟨_, rfl⟩
      obtain ⟨b3, hb3⟩ : ∃ v, bits BinOp.and IntKind.i64 m.pr 7 = v := ⟨_, rfl⟩
      have r1 : 0 ≤ bits BinOp.and IntKind.i64 m.fr 31 ∧ bits BinOp.and IntKind.i64 m.fr 31 ≤ 31 := mask_le m.fr 31 (by omega)
      have r2 : 0 ≤ bits BinOp.and IntKind.i64 m.to 15 ∧ bits BinOp.and IntKind.i64 m.to 15 ≤ 15 := mask_le m.to 15 (by omega)
      have r3 : 0 ≤ bits BinOp.and IntKind.i64 m.pr 7 ∧ bits BinOp.and IntKind.i64 m.pr 7 ≤ 7 := mask_le m.pr 7 (by omega)
      rw [hb1] at r1
      rw [hb2] at r2
      rw [hb3] at r3
      have hwr : IntKind.i64.wrap (b1 + b2) = b1 + b2 := IntWalk.i64_in _ (by omega)
      go_wp2
      go_region
      go_wp2
      go_region
      go_wp2_with (at_builtin; refine append_rds rfl (.tmp 40) (.tmp 42) 22 rfl W.heap.size 30 i0 _ 4 32 Try.underlying22 hi0 hz0 hz1 hz2 rfl (by omega) (.slice Ao k po) k _ rfl ((own_drewN (HO.out.alloc _) 2).alloc _) (wr.heap.size + 1 + 1) (some ⟨wr.heap.size + 1, 0, none⟩) 1 1 (cells4 [⟨k, b1, b1 + b2, b3⟩]) (by simp [go_sem]) (rds_mark _ _ _ ⟨k, b1, b1 + b2, b3⟩ (by omega) (by first | (simp [go_sem]; done) | exact heap_two _ _ _)) (oneCell_marks _) (by simp only [maxLen]; omega) (by omega) (by simp; omega) ?_)
      intro v3 w3 hown3 hg3 hat3
      obtain ⟨A3, p3, rfl, _, _⟩ := own_form hown3
      have hb3 : Below W.heap.size W w3 := by
        refine Below.grown (Below.alloc (Below.drew (Below.drew (HBX.out.alloc hxz _))) ?_ _) hg3 ?_ fun k hk => (HO.out.lt k hk).1
        · simp; omega
        · simp; omega
      rw [← cells4_append] at hown3
      have HM3 : Hid (MarksOk (M ++ [⟨k, b1, b1 + b2, b3⟩])) := by
        refine ⟨by simp; omega, fun i hi => ?_⟩
        simp only [List.length_append, List.length_cons, List.length_nil] at hi
        by_cases hik : i < M.length
        · rw [List.getElem_append_left hik]
          exact HM.out.2 i hik
        · have hik' : i = M.length := by omega
          subst hik'
          simp
          omega
      have HO3 := Lib.hid hown3
      clear hown3 hg3 hat3
      go_wp2
      go_roundw
      case rel => exact ⟨k + 1, _, M ++ [⟨k, b1, b1 + b2, b3⟩], A3, p3, rfl, by omega, by omega, by go_num, rfl, by simp; omega, HM3, HO3, hb3⟩
      case measure => simp [intOf]; omega
    · subst hM
      have HBX := Lib.hid hbx
      clear hbx hL
      by_cases hkn : M.length < n
      · have hk3' : decide ((M.length : Int) < 30) = false := by simp; omega
        go_wp2
        go_ret
        exact ⟨M, Ao, po, HM.out, rfl, HO.out, HBX.out⟩
      · go_wp2
        go_ret
        exact ⟨M, Ao, po, HM.out, rfl, HO.out, HBX.out⟩

/-- Index: the masked number's rest. -/
def idx (k : Int) (n : Nat) : Nat := ((bits BinOp.and IntKind.i64 k 4294967295).tmod n).toNat
theorem idx_cast (k : Int) (n : Nat) : ((idx k n : Nat) : Int) = (bits BinOp.and IntKind.i64 k 4294967295).tmod n := by
  have h : 0 ≤ bits BinOp.and IntKind.i64 k 4294967295 ∧ bits BinOp.and IntKind.i64 k 4294967295 ≤ 4294967295 := mask_le k 4294967295 (by omega)
  unfold idx
  rw [Int.tmod_eq_emod_of_nonneg h.1]
  have : 0 ≤ bits BinOp.and IntKind.i64 k 4294967295 % (n : Int) := by
    by_cases hn : n = 0
    · subst hn; simpa using h.1
    · exact Int.emod_nonneg _ (by omega)
  omega
theorem idx_lt (k : Int) (n : Nat) (hn : 0 < n) : idx k n < n := by
  have h : 0 ≤ bits BinOp.and IntKind.i64 k 4294967295 ∧ bits BinOp.and IntKind.i64 k 4294967295 ≤ 4294967295 := mask_le k 4294967295 (by omega)
  have e := idx_cast k n
  rw [Int.tmod_eq_emod_of_nonneg h.1] at e
  have := Int.emod_lt_of_pos (bits BinOp.and IntKind.i64 k 4294967295) (show (0 : Int) < n by omega)
  omega
theorem index_any (k : Int) (n : Nat) (hn : 0 < n) (hn2 : n ≤ 9223372036854775807) (w : World) :
    Calls Try.prog 11 #[.int .i64 k, .int .i64 n] w fun e w' => e = .returned (.int .i64 (idx k n)) ∧ w = w' := by
  go_enter Try.func11, Try.ntmps11
  go_wp2
  go_ret
  exact ⟨by rw [idx_cast]; rfl, rfl⟩

/-- Two slices of one list of marks. -/
theorem RdM.of_own {W w : World} {base n p : Nat} {A : Option Addr} {K : List Mk} (ho : W.ownsRow base 30 4 (.slice A n p) K.length (cells4 K)) (hb : Below W.heap.size W w) : RdM w W.heap.size A K.length K := by
  refine ⟨rfl, fun k hk => ?_⟩
  obtain ⟨g, cap, hv, hg1, hg2⟩ := ho.form (by omega)
  have hA : A = some ⟨g, 0, none⟩ := by injection hv
  subst hA
  have h := mark_at ho hg2 hb hk
  refine ⟨_, rfl, hg2, fun j hj => ?_⟩
  have e : (⟨g, 0, none⟩ : Addr).add (k * 4 + j) = ⟨g, k * 4 + j, none⟩ := by unfold Addr.add; split <;> simp_all
  rw [e]
  have hj4 : j = 0 ∨ j = 1 ∨ j = 2 ∨ j = 3 := by omega
  rcases hj4 with rfl | rfl | rfl | rfl
  · exact h.1
  · exact h.2.1
  · exact h.2.2.1
  · exact h.2.2.2
set_option maxHeartbeats 1000000 in
theorem sameMarks_yes (W : World) (A A' : Option Addr) (c c' : Nat) (K : List Mk) (h1 : RdM W W.heap.size A K.length K) (h2 : RdM W W.heap.size A' K.length K) (hK : K.length ≤ 1000) :
    Calls Try.prog 15 #[.slice A K.length c, .slice A' K.length c'] W fun e w' => e = .returned (.bool true) ∧ Below W.heap.size W w' := by
  obtain ⟨n, hn⟩ : ∃ n, K.length = n := ⟨_, rfl⟩
  rw [hn] at h1 h2 hK ⊢
  clear hn
  go_enter Try.func15, Try.ntmps15
  go_wp2
  go_loopw [13] (fun i wr => ∃ (k : Nat) (w0 : World), w0 = wr ∧ k ≤ n ∧ i = .int .i64 k ∧ Below W.heap.size W wr) (fun i _ => n - (intOf i).toNat)
  case atStart => exact ⟨0, _, rfl, Nat.zero_le _, rfl, Below.refl _ _⟩
  case round =>
    obtain ⟨k, wr, rfl, hk, rfl, hbx⟩ := hrel
    by_cases hlt : k < n
    · obtain ⟨ad, m, rfl, hB, Hm, e0, e1, e2, e3⟩ := (h1.below hbx).at_ hlt
      obtain ⟨ad', m', rfl, hB', Hm', x0, x1, x2, x3⟩ := (h2.below hbx).at_ hlt
      have hmm : m' = m := Hm'.out.symm.trans Hm.out
      subst hmm
      have HBX := Lib.hid hbx
      clear hbx h1 h2
      go_wp2
      go_region
      go_wp2
      go_roundw
      case rel => exact ⟨k + 1, _, rfl, by omega, by go_num, HBX.out.drew⟩
      case measure => simp [intOf]; omega
    · go_wp2
      go_ret
      exact ⟨rfl, hbx⟩
end Go.Proofs.Ytkibhinpbpgkeaa
