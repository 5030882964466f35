/- The walk of TreapNear. -/
import Derived.Test.YtkibhinpbpgkeaaRn
namespace Go.Proofs.Ytkibhinpbpgkeaa
open Go.RowKit Go.ChangeMaps
attribute [local go_sem ↓] Go.wp_at_zero Go.wp_at_succ

theorem info52 : (Try.prog.info? 52).map (fun i => (i.zero, i.size, i.bytes)) = some (some (.agg #[.int .i64 0, .int .i64 0, .int .i64 0, .int .i64 0, .int .i64 0]), 5, 40) := by kernel_rfl
theorem heap_second (w : World) (o o' : Obj) : (((w.alloc o).alloc o').drew).heap[w.heap.size + 1]? = some o' := by
  have h := heap_new (w.alloc o) o'
  rw [show (w.alloc o).heap.size = w.heap.size + 1 from by simp] at h
  exact h
theorem rds_block (W : World) (g B z : Nat) (cs : Array Value) (T : TypeId) (hB : g < B) (hz : cs.size = z) (h : W.heap[g]? = some (.cells cs T (0, 0))) : Rds W B z (some ⟨g, 0, none⟩) 1 cs.toList := by
  refine ⟨by rw [Array.length_toList, hz, Nat.one_mul], fun j hj => ⟨_, rfl, hB, ?_⟩⟩
  rw [Array.length_toList] at hj
  have e : (⟨g, 0, none⟩ : Addr).add j = ⟨g, j, none⟩ := by unfold Addr.add; split <;> simp_all
  rw [e, cell_of_row W g j _ _ _ h]
  simp
set_option maxRecDepth 100000 in
set_option maxHeartbeats 4000000 in
theorem near_any (W : World) (A : Option Addr) (n c : Nat) (hD : RdD W W.heap.size A n) (_hn : n ≤ 9223372036854775807) : Calls Try.prog 8 #[.slice A n c] W fun e w' => e = .returned (.bool true) ∧ Below W.heap.size W w' := by
  obtain ⟨i0, hi0, hz0, hz1, hz2⟩ := info_parts info52
  have HDD := Lib.hid hD
  clear hD
  go_enter Try.func8, Try.ntmps8
  go_wp2
  go_loopw [3, 4] (fun o i wr => ∃ (k : Nat) (w0 : World) (Ao : Option Addr) (po : Nat), w0 = wr ∧ k ≤ n ∧ k ≤ 50 ∧ i = .int .i64 k ∧ o = .slice Ao k po ∧ Hid (∃ zs : List Int, wr.ownsRow W.heap.size 52 5 (.slice Ao k po) k (zs.map (Value.int .i64))) ∧ Below W.heap.size W wr) (fun _ i _ => 50 - (intOf i).toNat)
  case atStart => exact ⟨0, _, none, 0, rfl, Nat.zero_le _, by omega, rfl, rfl, ⟨[], World.ownsRow_nil _ _ _ _⟩, Below.refl _ _⟩
  case round =>
    obtain ⟨k, wr, Ao, po, rfl, hkn, hk50, rfl, rfl, HO, hbx⟩ := hrel
    by_cases hlt : k < n ∧ k < 50
    · obtain ⟨hlt1, hlt2⟩ := hlt
      obtain ⟨ad, how, m, rfl, hB0, y0, y1, y2, y3, y4⟩ := (HDD.out.below hbx) k hlt1
      have hk3 : decide ((k : Int) < 50) = true := by simp; omega
      have hxz := hbx.size
      have hBy : (ad.add (k * 5)).block < wr.heap.size := by omega
      have HBX := Lib.hid hbx
      obtain ⟨v1, hv1⟩ : ∃ v, bits BinOp.and IntKind.i64 m.id 15 = v := ⟨_, rfl⟩
      obtain ⟨v2, hv2⟩ : ∃ v, bits BinOp.and IntKind.i64 m.fr 7 = v := ⟨_, rfl⟩
      obtain ⟨v3, hv3⟩ : ∃ v, bits BinOp.and IntKind.i64 m.to 7 = v := ⟨_, rfl⟩
      obtain ⟨v4, hv4⟩ : ∃ v, bits BinOp.and IntKind.i64 m.pr 3 = v := ⟨_, rfl⟩
      have r2 : 0 ≤ bits BinOp.and IntKind.i64 m.fr 7 ∧ bits BinOp.and IntKind.i64 m.fr 7 ≤ 7 := mask_le m.fr 7 (by omega)
      have r3 : 0 ≤ bits BinOp.and IntKind.i64 m.to 7 ∧ bits BinOp.and IntKind.i64 m.to 7 ≤ 7 := mask_le m.to 7 (by omega)
      rw [hv2] at r2
      rw [hv3] at r3
      have hwr : IntKind.i64.wrap (v2 + v3) = v2 + v3 := IntWalk.i64_in _ (by omega)
      clear hbx
      have HZ : Hid (∃ zs : List Int, wr.ownsRow W.heap.size 52 5 (.slice Ao k po) k (zs.map (Value.int .i64))) := HO.out
      obtain ⟨zs, hzs⟩ := HO.out
      have HZS := Lib.hid hzs
      clear hzs HO HZ
      go_wp2
      go_region_held3 (fun w' => w'.cell? ⟨wr.heap.size, 2, none⟩ = some (.int .i64 v2) ∧ w'.cell? ⟨(ad.add (k * 5)).block, (ad.add (k * 5)).off + 3, none⟩ = some (.int .i64 m.to)) (simp [go_sem, World.cell?_alloc_past, *]) (fail)
      go_wp2_with (at_builtin; refine append_rds rfl (.tmp 48) (.tmp 50) 48 rfl W.heap.size 52 i0 _ 5 40 Try.underlying48 hi0 hz0 hz1 hz2 rfl (by omega) (.slice Ao k po) k _ rfl ((HZS.out.alloc _).alloc _).drew (wr.heap.size + 1 + 1) (some ⟨wr.heap.size + 1, 0, none⟩) 1 1 ([how, v1, v2, v2 + v3, v4].map (Value.int .i64)) (by simp [go_sem]) (rds_block _ (wr.heap.size + 1) _ 5 #[.int .i64 how, .int .i64 v1, .int .i64 v2, .int .i64 (v2 + v3), .int .i64 v4] 52 (by omega) rfl (heap_second _ _ _)) (oneCell_ints _) (by simp only [maxLen]; omega) (by omega) (by simp; omega) ?_)
      intro u3 w3 hown3 hg3 hat3
      obtain ⟨A3, p3, rfl, _, _⟩ := own_form hown3
      have hb3 : Below W.heap.size W w3 := by
        refine Below.grown (Below.drew (Below.alloc (HBX.out.alloc hxz _) ?_ _)) hg3 ?_ fun k hk => (HZS.out.lt k hk).1
        · simp; omega
        · simp; omega
      have hown4 : w3.ownsRow W.heap.size 52 5 (.slice A3 (k + 1) p3) (k + 1) ((zs ++ [how, v1, v2, v2 + v3, v4]).map (Value.int .i64)) := by rw [List.map_append]; exact hown3
      have HO3 : Hid (∃ zs : List Int, w3.ownsRow W.heap.size 52 5 (.slice A3 (k + 1) p3) (k + 1) (zs.map (Value.int .i64))) := ⟨_, hown4⟩
      clear hown3 hown4 hg3 hat3
      go_wp2
      exact ⟨⟨k + 1, _, A3, p3, rfl, by omega, by omega, by go_num, rfl, HO3, hb3⟩, by simp [intOf]; omega⟩
    · have HBX := Lib.hid hbx
      have HZ2 : Hid (RdD wr wr.heap.size Ao k) := by obtain ⟨zs, hzs⟩ := HO.out; exact RdD.of_own hzs
      obtain ⟨B, hB⟩ : ∃ B, wr.heap.size = B := ⟨_, rfl⟩
      have HN : Hid (Calls Try.prog 10 #[] wr fun e w' => e = .returned (.pointer (some ⟨B + 1, 0, none⟩)) ∧ SetIn w' (B + 1) B .nil ∧ Below B wr w') := by have h := new_any wr; rw [hB] at h; exact h
      have hWB : W.heap.size ≤ B := by have := hbx.size; omega
      rw [hB] at HZ2
      clear hbx HO hB
      have hk2 : k ≤ 9223372036854775807 := by omega
      by_cases hlt1 : k < n
      case' pos => have hk3 : decide ((k : Int) < 50) = false := by simp; omega
      all_goals
        go_wp2_with (first
          | (go_at_call 10; (with_reducible refine (HN.out).mono ?_); rintro e w1 ⟨rfl, hs1, hb1⟩; have hlt2 := hs1.lt (B + 1) (by simp); have HB1 := Lib.hid hb1; have HS := Lib.hid (both_new hs1); have HB2 : Hid (Below B w1 (w1.alloc (.cells #[.slice none 0 0] 40 (0, 0)))) := (Below.refl _ _).alloc (by omega) _; clear hs1 hb1)
          | (go_at_call 24; (with_reducible refine (play_any _ B (B + 1) B w1.heap.size [] Ao k po HS.out ((HZ2.out.below HB1.out).below HB2.out) hk2).mono ?_); rintro e w3 ⟨rfl, hd3⟩; have HD3 := Lib.hid hd3; have hz3 := hd3.size; clear hd3)
          | (go_at_call 17; (with_reducible refine (known_any w3).mono ?_); rintro e w4 ⟨rfl, hd4⟩; have HD4 := Lib.hid hd4; clear hd4))
        go_ret
        have hz : B ≤ w3.heap.size := by
          have h1 := HB2.out.size
          omega
        exact ⟨rfl, HBX.out.trans ((HB1.out.trans (HB2.out.trans (HD3.out.trans (HD4.out.mono hz)))).mono hWB)⟩
end Go.Proofs.Ytkibhinpbpgkeaa
