/- The walk of play. -/
import Derived.Test.YtkibhinpbpgkeaaRl
namespace Go.Proofs.Ytkibhinpbpgkeaa
open Go.RowKit Go.ChangeMaps
attribute [local go_sem ↓] Go.wp_at_zero Go.wp_at_succ

theorem Bx.chg {w w' : World} {F : List Nat} {q : Nat} {m : Mk} (h : Bx w q m) (hc : Chg F w w') (hn : q ∉ F) : Bx w' q m := (hc.block q (heap_lt h) hn).trans h
theorem add_len (K : List Mk) (m : Mk) (h : K.length ≤ 600) : (addL K m).length ≤ 600 := by
  unfold addL
  split
  · rename_i h0
    rw [ins_len]
    have := (addN_zero h0).2.2
    omega
  · exact h
theorem mov_len (K : List Mk) (i f o : Int) (hid : Ids K) (h : K.length ≤ 600) : (movL K i f o).length ≤ 600 := by
  by_cases hb : hasB K i = true
  · obtain ⟨m, hm, rfl⟩ := hasB_true hb
    unfold movL
    rw [find_of hid hm]
    simp only
    split
    · rw [ins_len]
      have := del_len_mem hid hm
      omega
    · exact h
  · unfold movL
    rw [find_miss (hasB_false (by simpa using hb))]
    exact h
/-- A slice of deeds, told by its cells alone. -/
def RdD (W : World) (B : Nat) (A : Option Addr) (n : Nat) : Prop :=
  ∀ k, k < n → ∃ (ad : Addr) (h : Int) (m : Mk), A = some ad ∧ (ad.add (k * 5)).block < B ∧ W.cell? (ad.add (k * 5)) = some (.int .i64 h) ∧ W.cell? ⟨(ad.add (k * 5)).block, (ad.add (k * 5)).off + 1, none⟩ = some (.int .i64 m.id) ∧ W.cell? ⟨(ad.add (k * 5)).block, (ad.add (k * 5)).off + 2, none⟩ = some (.int .i64 m.fr) ∧ W.cell? ⟨(ad.add (k * 5)).block, (ad.add (k * 5)).off + 3, none⟩ = some (.int .i64 m.to) ∧ W.cell? ⟨(ad.add (k * 5)).block, (ad.add (k * 5)).off + 4, none⟩ = some (.int .i64 m.pr)
theorem RdD.below {W w : World} {B n : Nat} {A : Option Addr} (h : RdD W B A n) (hb : Below B W w) : RdD w B A n := fun k hk => by
  obtain ⟨ad, x, m, e, hB, c0, c1, c2, c3, c4⟩ := h k hk
  exact ⟨ad, x, m, e, hB, (hb.cell hB).trans c0, (hb.cell (p := ⟨(ad.add (k * 5)).block, _, none⟩) hB).trans c1, (hb.cell (p := ⟨(ad.add (k * 5)).block, _, none⟩) hB).trans c2, (hb.cell (p := ⟨(ad.add (k * 5)).block, _, none⟩) hB).trans c3, (hb.cell (p := ⟨(ad.add (k * 5)).block, _, none⟩) hB).trans c4⟩

set_option maxRecDepth 100000 in
set_option maxHeartbeats 20000000 in
theorem play_any (W : World) (B s b r : Nat) (K : List Mk) (A0 : Option Addr) (n c : Nat) (hS : Both W B s b r K) (hD : RdD W B A0 n) (_hn : n ≤ 9223372036854775807) :
    Calls Try.prog 24 #[.pointer (some ⟨s, 0, none⟩), .pointer (some ⟨r, 0, none⟩), .slice A0 n c] W fun e w' => e = .returned (.bool true) ∧ Below B W w' := by
  have HDD := Lib.hid hD
  go_enter Try.func24, Try.ntmps24
  go_wp2
  go_loopw [7] (fun i wr => ∃ (k : Nat) (w0 : World) (K : List Mk), w0 = wr ∧ k ≤ n ∧ k ≤ 60 ∧ i = .int .i64 k ∧ Both wr B s b r K ∧ Below B W wr) (fun i _ => 60 - (intOf i).toNat)
  case atStart => exact ⟨0, _, K, rfl, Nat.zero_le _, by omega, rfl, hS, Below.refl _ _⟩
  case round =>
    obtain ⟨k, wr, K, rfl, hkn, hk60, rfl, hS, hbx⟩ := hrel
    by_cases hlt : k < n ∧ k < 60
    · obtain ⟨hlt1, hlt2⟩ := hlt
      obtain ⟨ad, how, m, rfl, hB0, y0, y1, y2, y3, y4⟩ := (HDD.out.below hbx) k hlt1
      have hBw : B ≤ wr.heap.size := hS.set.size.2.2
      have hBy : (ad.add (k * 5)).block < wr.heap.size := by omega
      obtain ⟨h, hh⟩ : ∃ h, bits BinOp.and IntKind.i64 how 7 = h := ⟨_, rfl⟩
      have hh0 : 0 ≤ bits BinOp.and IntKind.i64 how 7 ∧ bits BinOp.and IntKind.i64 how 7 ≤ 7 := mask_le how 7 (by omega)
      rw [hh] at hh0
      have hk3 : decide ((k : Int) < 60) = true := by simp; omega
      obtain ⟨X, hX⟩ : ∃ X, X = wr.alloc (.cells #[.int .i64 m.id, .int .i64 m.fr, .int .i64 m.to, .int .i64 m.pr] 30 (0, 0)) := ⟨_, rfl⟩
      have HAX : Hid (Below wr.heap.size wr X) := by rw [hX]; exact (Below.refl _ _).alloc (Nat.le_refl _) _
      have HBX0 : Hid (Bx X wr.heap.size m) := by rw [hX]; exact heap_new _ _
      have HWX : Hid (Below B wr X) := HAX.out.mono hBw
      have hzX : wr.heap.size < X.heap.size := heap_lt HBX0.out
      have HS : Hid (Both X B s b r K) := hS.below HAX.out
      have HID := Lib.hid hS.set.ids
      obtain ⟨t, A, q, c', h1, h2, h3, h4, h5, h6, h7, h8⟩ := hS
      have HT := Lib.hid h2
      have HD := Lib.hid (And.intro h4 (And.intro h5 (And.intro h6 h7)))
      have hq : q ≤ 600 := by rw [← h3.len]; exact h8
      have hq2 : q ≤ 1000 := by omega
      have HBXD : Hid (Bx X.drew wr.heap.size m) := HBX0.out
      have HSX : Hid (SetIn X.drew s b t) := (h1.below HAX.out h1.lt).below (Below.drew (Below.refl _ _)) (h1.below HAX.out h1.lt).lt
      have HRX0 : Hid (RefIn X r A q c' K) := h3.below HAX.out
      have HRX : Hid (RefIn X.drew r A q c' K) := (h3.below HAX.out).below (Below.drew (Below.refl _ _))
      have HNO : Hid (wr.heap.size ∉ s :: b :: t.blocks) := fun h => by have := h1.lt _ h; omega
      have hrl := h3.lt
      have HNR : Hid (wr.heap.size ∉ [r]) := by simp [Hid]; omega
      have HNS : Hid (∀ g ∈ s :: b :: t.blocks, g ∉ [r]) := fun g hg h => by simp at h; subst h; exact h6 hg
      have HBX := Lib.hid hbx
      have y0X : X.cell? (ad.add (k * 5)) = some (.int .i64 how) := (HAX.out.cell hBy).trans y0
      obtain ⟨b0, b1, b2, b3⟩ := HBX0.out.cells
      have hX' := hX.symm
      clear hX h1 h2 h3 h4 h5 h6 h7 h8 hbx hrl
      have h6 : h = 0 ∨ h = 1 ∨ h = 2 ∨ h = 3 ∨ h = 4 ∨ 5 ≤ h := by omega
      rcases h6 with rfl | rfl | rfl | rfl | rfl | h6
      · obtain ⟨v, HV⟩ : ∃ v : Int, Hid (addN K m = v) := ⟨_, rfl⟩
        have HLEN : Hid ((addL K m).length ≤ 600) := add_len K m HS.out.set.len
        go_wp2
        go_region_held3 (fun w' => w'.cell? ⟨wr.heap.size, 0, none⟩ = some (.int .i64 m.id) ∧ w'.cell? ⟨wr.heap.size, 1, none⟩ = some (.int .i64 m.fr) ∧ w'.cell? ⟨wr.heap.size, 2, none⟩ = some (.int .i64 m.to) ∧ w'.cell? ⟨wr.heap.size, 3, none⟩ = some (.int .i64 m.pr)) (first | exact HBX2.out.cells | exact HBX1.out.cells | exact HBX0.out.cells)
          ((first
            | (go_at_call 12; (with_reducible refine ((set_add X.drew s b t K m v HV HT HSX.out)).mono ?_); rintro e w1 ⟨rfl, hl⟩; have HL := Lib.hid hl; obtain ⟨_, _, _, _, hc⟩ := hl; have HBX1 : Hid (Bx w1 wr.heap.size m) := Bx.chg HBXD.out hc HNO.out; have HREF2 : Hid (RefIn w1 r A q c' K) := RefIn.chg HRX.out hc HD.out.2.2.1 HD.out.2.2.2; clear hc)
            | (go_at_call 18; (with_reducible refine ((ref_add X.drew r A q c' K m v HV HRX.out hq)).mono ?_); rintro e w2 ⟨rfl, hl2⟩; have HL2 := Lib.hid hl2; obtain ⟨_, _, _, _, _, hc⟩ := hl2; have HBX2 : Hid (Bx w2 wr.heap.size m) := Bx.chg HBXD.out hc HNR.out; have HSET2 : Hid (SetIn w2 s b t) := SetIn.chg HSX.out hc HNS.out; clear hc)
            | (go_at_call 18; (with_reducible refine ((ref_add w1 r A q c' K m v HV HREF2.out hq)).mono ?_); rintro e w2 ⟨rfl, hl2⟩; have HL2 := Lib.hid hl2; obtain ⟨_, _, _, _, _, hc⟩ := hl2; have HBX2 : Hid (Bx w2 wr.heap.size m) := Bx.chg HBX1.out hc HNR.out; have HF : Hid (Both w2 B s b r (addL K m) ∧ Below B X.drew w2) := both_fin1 HSX.out HRX.out HD.out.1 HD.out.2.1 HD.out.2.2.1 HD.out.2.2.2 HLEN.out HL.out HL2.out; clear hc)
            | (go_at_call 12; (with_reducible refine ((set_add w2 s b t K m v HV HT HSET2.out)).mono ?_); rintro e w1 ⟨rfl, hl⟩; have HL := Lib.hid hl; obtain ⟨_, _, _, _, hc⟩ := hl; have HBX1 : Hid (Bx w1 wr.heap.size m) := Bx.chg HBX2.out hc HNO.out; have HF : Hid (Both w1 B s b r (addL K m) ∧ Below B X.drew w1) := both_fin2 HSX.out HRX.out HD.out.1 HD.out.2.1 HD.out.2.2.1 HD.out.2.2.2 HLEN.out HL2.out HL.out; clear hc)))
        all_goals
          have HZ := Lib.hid HF.out.1
          go_wp2_with (go_at_call 44; (with_reducible refine (same_any _ B s b r (addL K m) HZ.out).mono ?_); rintro e w9 ⟨rfl, hd9⟩; have HD9 := Lib.hid hd9; clear hd9)
          exact ⟨⟨k + 1, _, _, rfl, by omega, by omega, by go_num, HZ.out.below HD9.out, HBX.out.trans (HWX.out.drew.trans (HF.out.2.trans (HD9.out.mono HZ.out.set.size.2.2)))⟩, by simp [intOf]; omega⟩
      · obtain ⟨v, HV⟩ : ∃ v : Int, Hid (remN K m.id = v) := ⟨_, rfl⟩
        have HLEN : Hid ((del K m.id).length ≤ 600) := Nat.le_trans (del_len K m.id) HS.out.set.len
        go_wp2
        go_region_held3 (fun w' => w'.cell? ⟨wr.heap.size, 0, none⟩ = some (.int .i64 m.id) ∧ w'.cell? ⟨wr.heap.size, 1, none⟩ = some (.int .i64 m.fr) ∧ w'.cell? ⟨wr.heap.size, 2, none⟩ = some (.int .i64 m.to) ∧ w'.cell? ⟨wr.heap.size, 3, none⟩ = some (.int .i64 m.pr)) (first | exact HBX2.out.cells | exact HBX1.out.cells | exact HBX0.out.cells)
          ((first
            | (go_at_call 13; (with_reducible refine ((set_rem X.drew s b t K m.id v HV HT HSX.out)).mono ?_); rintro e w1 ⟨rfl, hl⟩; have HL := Lib.hid hl; obtain ⟨_, _, _, _, hc⟩ := hl; have HBX1 : Hid (Bx w1 wr.heap.size m) := Bx.chg HBXD.out hc HNO.out; have HREF2 : Hid (RefIn w1 r A q c' K) := RefIn.chg HRX.out hc HD.out.2.2.1 HD.out.2.2.2; clear hc)
            | (go_at_call 40; (with_reducible refine ((ref_rem X.drew r A q c' K m.id v HV HRX.out HID.out hq)).mono ?_); rintro e w2 ⟨rfl, hl2⟩; have HL2 := Lib.hid hl2; obtain ⟨_, _, _, _, _, hc⟩ := hl2; have HBX2 : Hid (Bx w2 wr.heap.size m) := Bx.chg HBXD.out hc HNR.out; have HSET2 : Hid (SetIn w2 s b t) := SetIn.chg HSX.out hc HNS.out; clear hc)
            | (go_at_call 40; (with_reducible refine ((ref_rem w1 r A q c' K m.id v HV HREF2.out HID.out hq)).mono ?_); rintro e w2 ⟨rfl, hl2⟩; have HL2 := Lib.hid hl2; obtain ⟨_, _, _, _, _, hc⟩ := hl2; have HBX2 : Hid (Bx w2 wr.heap.size m) := Bx.chg HBX1.out hc HNR.out; have HF : Hid (Both w2 B s b r (del K m.id) ∧ Below B X.drew w2) := both_fin1 HSX.out HRX.out HD.out.1 HD.out.2.1 HD.out.2.2.1 HD.out.2.2.2 HLEN.out HL.out HL2.out; clear hc)
            | (go_at_call 13; (with_reducible refine ((set_rem w2 s b t K m.id v HV HT HSET2.out)).mono ?_); rintro e w1 ⟨rfl, hl⟩; have HL := Lib.hid hl; obtain ⟨_, _, _, _, hc⟩ := hl; have HBX1 : Hid (Bx w1 wr.heap.size m) := Bx.chg HBX2.out hc HNO.out; have HF : Hid (Both w1 B s b r (del K m.id) ∧ Below B X.drew w1) := both_fin2 HSX.out HRX.out HD.out.1 HD.out.2.1 HD.out.2.2.1 HD.out.2.2.2 HLEN.out HL2.out HL.out; clear hc)))
        all_goals
          have HZ := Lib.hid HF.out.1
          go_wp2_with (go_at_call 44; (with_reducible refine (same_any _ B s b r (del K m.id) HZ.out).mono ?_); rintro e w9 ⟨rfl, hd9⟩; have HD9 := Lib.hid hd9; clear hd9)
          exact ⟨⟨k + 1, _, _, rfl, by omega, by omega, by go_num, HZ.out.below HD9.out, HBX.out.trans (HWX.out.drew.trans (HF.out.2.trans (HD9.out.mono HZ.out.set.size.2.2)))⟩, by simp [intOf]; omega⟩
      · obtain ⟨v, HV⟩ : ∃ v : Int, Hid (movN K m.id m.fr m.to = v) := ⟨_, rfl⟩
        have HLEN : Hid ((movL K m.id m.fr m.to).length ≤ 600) := mov_len K m.id m.fr m.to HID.out HS.out.set.len
        go_wp2
        go_region_held3 (fun w' => w'.cell? ⟨wr.heap.size, 0, none⟩ = some (.int .i64 m.id) ∧ w'.cell? ⟨wr.heap.size, 1, none⟩ = some (.int .i64 m.fr) ∧ w'.cell? ⟨wr.heap.size, 2, none⟩ = some (.int .i64 m.to) ∧ w'.cell? ⟨wr.heap.size, 3, none⟩ = some (.int .i64 m.pr)) (first | exact HBX2.out.cells | exact HBX1.out.cells | exact HBX0.out.cells)
          ((first
            | (go_at_call 41; (with_reducible refine ((set_mov X.drew s b t K m.id m.fr m.to v HV HT HSX.out)).mono ?_); rintro e w1 ⟨rfl, hl⟩; have HL := Lib.hid hl; obtain ⟨_, _, _, _, hc⟩ := hl; have HBX1 : Hid (Bx w1 wr.heap.size m) := Bx.chg HBXD.out hc HNO.out; have HREF2 : Hid (RefIn w1 r A q c' K) := RefIn.chg HRX.out hc HD.out.2.2.1 HD.out.2.2.2; clear hc)
            | (go_at_call 42; (with_reducible refine ((ref_mov X.drew r A q c' K m.id m.fr m.to v HV HRX.out HID.out hq)).mono ?_); rintro e w2 ⟨rfl, hl2⟩; have HL2 := Lib.hid hl2; obtain ⟨_, _, _, _, _, hc⟩ := hl2; have HBX2 : Hid (Bx w2 wr.heap.size m) := Bx.chg HBXD.out hc HNR.out; have HSET2 : Hid (SetIn w2 s b t) := SetIn.chg HSX.out hc HNS.out; clear hc)
            | (go_at_call 42; (with_reducible refine ((ref_mov w1 r A q c' K m.id m.fr m.to v HV HREF2.out HID.out hq)).mono ?_); rintro e w2 ⟨rfl, hl2⟩; have HL2 := Lib.hid hl2; obtain ⟨_, _, _, _, _, hc⟩ := hl2; have HBX2 : Hid (Bx w2 wr.heap.size m) := Bx.chg HBX1.out hc HNR.out; have HF : Hid (Both w2 B s b r (movL K m.id m.fr m.to) ∧ Below B X.drew w2) := both_fin1 HSX.out HRX.out HD.out.1 HD.out.2.1 HD.out.2.2.1 HD.out.2.2.2 HLEN.out HL.out HL2.out; clear hc)
            | (go_at_call 41; (with_reducible refine ((set_mov w2 s b t K m.id m.fr m.to v HV HT HSET2.out)).mono ?_); rintro e w1 ⟨rfl, hl⟩; have HL := Lib.hid hl; obtain ⟨_, _, _, _, hc⟩ := hl; have HBX1 : Hid (Bx w1 wr.heap.size m) := Bx.chg HBX2.out hc HNO.out; have HF : Hid (Both w1 B s b r (movL K m.id m.fr m.to) ∧ Below B X.drew w1) := both_fin2 HSX.out HRX.out HD.out.1 HD.out.2.1 HD.out.2.2.1 HD.out.2.2.2 HLEN.out HL2.out HL.out; clear hc)))
        all_goals
          have HZ := Lib.hid HF.out.1
          go_wp2_with (go_at_call 44; (with_reducible refine (same_any _ B s b r (movL K m.id m.fr m.to) HZ.out).mono ?_); rintro e w9 ⟨rfl, hd9⟩; have HD9 := Lib.hid hd9; clear hd9)
          exact ⟨⟨k + 1, _, _, rfl, by omega, by omega, by go_num, HZ.out.below HD9.out, HBX.out.trans (HWX.out.drew.trans (HF.out.2.trans (HD9.out.mono HZ.out.set.size.2.2)))⟩, by simp [intOf]; omega⟩
      · by_cases hb : hasB K m.id = true
        · obtain ⟨kk, m2, hkk, hm2, hid2, hfi⟩ := fidx_hit hb
          have HFI := Lib.hid hfi
          have hkk0 : 0 ≤ (kk : Int) := by omega
          have GH : Hid (Calls Try.prog 29 #[.pointer (some ⟨s, 0, none⟩), .int .i64 m.id] X fun e w' => e = .returned (.tuple #[.agg #[.int .i64 m.id, .int .i64 m2.fr, .int .i64 m2.to, .int .i64 m2.pr], .bool true]) ∧ Below X.heap.size X w') := by
            have h := get_k X B s b K m2 HS.out.set (by rw [← hm2]; exact getD_mem hkk)
            rw [hid2] at h
            exact h
          clear hkk hm2 hid2 hfi hb
          go_wp2_with (go_at_call 29; (with_reducible refine (GH.out).mono ?_); rintro e w3 ⟨rfl, hd3⟩; have HD3 := Lib.hid hd3; have hz3 := hd3.size; clear hd3)
          obtain ⟨X2, hX2⟩ : ∃ X2, X2 = w3.alloc (.cells #[.int .i64 m.id, .int .i64 m2.fr, .int .i64 m2.to, .int .i64 m2.pr] 30 (0, 0)) := ⟨_, rfl⟩
          have HW3 : Hid (Below X.heap.size X X2) := by rw [hX2]; exact HD3.out.alloc hz3 _
          have HC2 : Hid (∀ w', Below X2.heap.size X2 w' → w'.cell? ⟨wr.heap.size, 0, none⟩ = some (.int .i64 m.id) ∧ w'.cell? ⟨wr.heap.size, 1, none⟩ = some (.int .i64 m.fr) ∧ w'.cell? ⟨wr.heap.size, 2, none⟩ = some (.int .i64 m.to) ∧ w'.cell? ⟨wr.heap.size, 3, none⟩ = some (.int .i64 m.pr)) := fun w' hb => (HBX0.out.below (HW3.out.trans (hb.mono HW3.out.size)) hzX).cells
          have HSB : Hid (∀ w', Below X2.heap.size X2 w' → Both w' B s b r K) := fun w' hb => HS.out.below (HW3.out.trans (hb.mono HW3.out.size))
          have HRB : Hid (∀ w', Below X2.heap.size X2 w' → RefIn w' r A q c' K) := fun w' hb => HRX0.out.below (HW3.out.trans (hb.mono HW3.out.size))
          have HW2 : Hid (Below wr.heap.size wr X2) := HAX.out.trans (HW3.out.mono (by omega))
          obtain ⟨v, HV⟩ : ∃ v : Int, Hid ((depN [] K m.id : Int) = v) := ⟨_, rfl⟩
          rw [← hX2]
          clear hX2
          go_region_held3 (fun w' => w'.cell? ⟨wr.heap.size, 0, none⟩ = some (.int .i64 m.id) ∧ w'.cell? ⟨wr.heap.size, 1, none⟩ = some (.int .i64 m.fr) ∧ w'.cell? ⟨wr.heap.size, 2, none⟩ = some (.int .i64 m.to) ∧ w'.cell? ⟨wr.heap.size, 3, none⟩ = some (.int .i64 m.pr)) (exact HC2.out _ (by repeat (first | exact HYd.out | exact HYc.out | exact HYb.out | exact HYa.out | exact Below.refl _ _ | refine Below.drew ?_)))
            ((first
              | (go_at_call 43; (with_reducible refine (asked_any _ B s b r K m.fr m.to (HSB.out _ (by repeat (first | exact HYd.out | exact HYc.out | exact HYb.out | exact HYa.out | exact Below.refl _ _ | refine Below.drew ?_)))).mono ?_); rintro e u1 ⟨rfl, hda⟩; have HYa : Hid (Below X2.heap.size X2 u1) := Below.trans (by repeat (first | exact HYd.out | exact HYc.out | exact HYb.out | exact HYa.out | exact Below.refl _ _ | refine Below.drew ?_)) (hda.mono (by first | exact Nat.le_refl _ | exact HYd.out.size | exact HYc.out.size | exact HYb.out.size | exact HYa.out.size)); clear hda)
              | (go_at_call 34; (with_reducible refine (find_any _ r A q c' K m.id kk HFI (HRB.out _ (by repeat (first | exact HYd.out | exact HYc.out | exact HYb.out | exact HYa.out | exact Below.refl _ _ | refine Below.drew ?_))) hq2).mono ?_); rintro e w' ⟨rfl, rfl⟩)
              | (go_at_call 14; (with_reducible refine (depth_k _ B s b K m.id v HV (HSB.out _ (by repeat (first | exact HYd.out | exact HYc.out | exact HYb.out | exact HYa.out | exact Below.refl _ _ | refine Below.drew ?_))).set).mono ?_); rintro e u2 ⟨rfl, hdb⟩; have HYb : Hid (Below X2.heap.size X2 u2) := Below.trans (by repeat (first | exact HYd.out | exact HYc.out | exact HYb.out | exact HYa.out | exact Below.refl _ _ | refine Below.drew ?_)) (hdb.mono (by first | exact Nat.le_refl _ | exact HYd.out.size | exact HYc.out.size | exact HYb.out.size | exact HYa.out.size)); clear hdb)
              | (go_at_call 20; (with_reducible refine (rdepth_any _ r A q c' K m.id v HV (HRB.out _ (by repeat (first | exact HYd.out | exact HYc.out | exact HYb.out | exact HYa.out | exact Below.refl _ _ | refine Below.drew ?_))) HID.out hq2).mono ?_); rintro e u3 ⟨rfl, hdc⟩; have HYc : Hid (Below X2.heap.size X2 u3) := Below.trans (by repeat (first | exact HYd.out | exact HYc.out | exact HYb.out | exact HYa.out | exact Below.refl _ _ | refine Below.drew ?_)) (hdc.mono (by first | exact Nat.le_refl _ | exact HYd.out.size | exact HYc.out.size | exact HYb.out.size | exact HYa.out.size)); clear hdc)))
          all_goals
            have HZ : Hid (Both _ B s b r K) := Lib.hid (HSB.out _ HYc.out)
            go_wp2_with (go_at_call 44; (with_reducible refine (same_any _ B s b r K HZ.out).mono ?_); rintro e w9 ⟨rfl, hd9⟩; have HD9 := Lib.hid hd9; clear hd9)
            exact ⟨⟨k + 1, _, _, rfl, by omega, by omega, by go_num, HZ.out.below HD9.out, HBX.out.trans ((HW2.out.trans ((HYc.out.trans (HD9.out.mono HYc.out.size)).mono HW2.out.size)).mono hBw)⟩, by simp [intOf]; omega⟩
        · have hb' : hasB K m.id = false := by simpa using hb
          have HFI := Lib.hid (fidx_miss hb')
          have HMISS := Lib.hid (hasB_false hb')
          clear hb hb'
          go_wp2_with (go_at_call 29; (with_reducible refine (get_n _ B s b K m.id HS.out.set HMISS.out).mono ?_); rintro e w3 ⟨rfl, hd3⟩; have HD3 := Lib.hid hd3; have hz3 := hd3.size; clear hd3)
          obtain ⟨X2, hX2⟩ : ∃ X2, X2 = w3.alloc (.cells #[.int .i64 0, .int .i64 0, .int .i64 0, .int .i64 0] 30 (0, 0)) := ⟨_, rfl⟩
          have HW3 : Hid (Below X.heap.size X X2) := by rw [hX2]; exact HD3.out.alloc hz3 _
          have HC2 : Hid (∀ w', Below X2.heap.size X2 w' → w'.cell? ⟨wr.heap.size, 0, none⟩ = some (.int .i64 m.id) ∧ w'.cell? ⟨wr.heap.size, 1, none⟩ = some (.int .i64 m.fr) ∧ w'.cell? ⟨wr.heap.size, 2, none⟩ = some (.int .i64 m.to) ∧ w'.cell? ⟨wr.heap.size, 3, none⟩ = some (.int .i64 m.pr)) := fun w' hb => (HBX0.out.below (HW3.out.trans (hb.mono HW3.out.size)) hzX).cells
          have HSB : Hid (∀ w', Below X2.heap.size X2 w' → Both w' B s b r K) := fun w' hb => HS.out.below (HW3.out.trans (hb.mono HW3.out.size))
          have HRB : Hid (∀ w', Below X2.heap.size X2 w' → RefIn w' r A q c' K) := fun w' hb => HRX0.out.below (HW3.out.trans (hb.mono HW3.out.size))
          have HW2 : Hid (Below wr.heap.size wr X2) := HAX.out.trans (HW3.out.mono (by omega))
          obtain ⟨v, HV⟩ : ∃ v : Int, Hid ((depN [] K m.id : Int) = v) := ⟨_, rfl⟩
          rw [← hX2]
          clear hX2
          go_region_held3 (fun w' => w'.cell? ⟨wr.heap.size, 0, none⟩ = some (.int .i64 m.id) ∧ w'.cell? ⟨wr.heap.size, 1, none⟩ = some (.int .i64 m.fr) ∧ w'.cell? ⟨wr.heap.size, 2, none⟩ = some (.int .i64 m.to) ∧ w'.cell? ⟨wr.heap.size, 3, none⟩ = some (.int .i64 m.pr)) (exact HC2.out _ (by repeat (first | exact HYd.out | exact HYc.out | exact HYb.out | exact HYa.out | exact Below.refl _ _ | refine Below.drew ?_)))
            ((first
              | (go_at_call 43; (with_reducible refine (asked_any _ B s b r K m.fr m.to (HSB.out _ (by repeat (first | exact HYd.out | exact HYc.out | exact HYb.out | exact HYa.out | exact Below.refl _ _ | refine Below.drew ?_)))).mono ?_); rintro e u1 ⟨rfl, hda⟩; have HYa : Hid (Below X2.heap.size X2 u1) := Below.trans (by repeat (first | exact HYd.out | exact HYc.out | exact HYb.out | exact HYa.out | exact Below.refl _ _ | refine Below.drew ?_)) (hda.mono (by first | exact Nat.le_refl _ | exact HYd.out.size | exact HYc.out.size | exact HYb.out.size | exact HYa.out.size)); clear hda)
              | (go_at_call 34; (with_reducible refine (find_any _ r A q c' K m.id (-1) HFI (HRB.out _ (by repeat (first | exact HYd.out | exact HYc.out | exact HYb.out | exact HYa.out | exact Below.refl _ _ | refine Below.drew ?_))) hq2).mono ?_); rintro e w' ⟨rfl, rfl⟩)
              | (go_at_call 14; (with_reducible refine (depth_k _ B s b K m.id v HV (HSB.out _ (by repeat (first | exact HYd.out | exact HYc.out | exact HYb.out | exact HYa.out | exact Below.refl _ _ | refine Below.drew ?_))).set).mono ?_); rintro e u2 ⟨rfl, hdb⟩; have HYb : Hid (Below X2.heap.size X2 u2) := Below.trans (by repeat (first | exact HYd.out | exact HYc.out | exact HYb.out | exact HYa.out | exact Below.refl _ _ | refine Below.drew ?_)) (hdb.mono (by first | exact Nat.le_refl _ | exact HYd.out.size | exact HYc.out.size | exact HYb.out.size | exact HYa.out.size)); clear hdb)
              | (go_at_call 20; (with_reducible refine (rdepth_any _ r A q c' K m.id v HV (HRB.out _ (by repeat (first | exact HYd.out | exact HYc.out | exact HYb.out | exact HYa.out | exact Below.refl _ _ | refine Below.drew ?_))) HID.out hq2).mono ?_); rintro e u3 ⟨rfl, hdc⟩; have HYc : Hid (Below X2.heap.size X2 u3) := Below.trans (by repeat (first | exact HYd.out | exact HYc.out | exact HYb.out | exact HYa.out | exact Below.refl _ _ | refine Below.drew ?_)) (hdc.mono (by first | exact Nat.le_refl _ | exact HYd.out.size | exact HYc.out.size | exact HYb.out.size | exact HYa.out.size)); clear hdc)))
          all_goals
            have HZ : Hid (Both _ B s b r K) := Lib.hid (HSB.out _ HYc.out)
            go_wp2_with (go_at_call 44; (with_reducible refine (same_any _ B s b r K HZ.out).mono ?_); rintro e w9 ⟨rfl, hd9⟩; have HD9 := Lib.hid hd9; clear hd9)
            exact ⟨⟨k + 1, _, _, rfl, by omega, by omega, by go_num, HZ.out.below HD9.out, HBX.out.trans ((HW2.out.trans ((HYc.out.trans (HD9.out.mono HYc.out.size)).mono HW2.out.size)).mono hBw)⟩, by simp [intOf]; omega⟩
      · by_cases hb : hasB K m.id = true
        · obtain ⟨kk, m2, hkk, hm2, hid2, hfi⟩ := fidx_hit hb
          have HFI := Lib.hid hfi
          have hkk0 : 0 ≤ (kk : Int) := by omega
          have GH : Hid (Calls Try.prog 29 #[.pointer (some ⟨s, 0, none⟩), .int .i64 m.id] X fun e w' => e = .returned (.tuple #[.agg #[.int .i64 m.id, .int .i64 m2.fr, .int .i64 m2.to, .int .i64 m2.pr], .bool true]) ∧ Below X.heap.size X w') := by
            have h := get_k X B s b K m2 HS.out.set (by rw [← hm2]; exact getD_mem hkk)
            rw [hid2] at h
            exact h
          clear hkk hm2 hid2 hfi hb
          go_wp2_with (go_at_call 29; (with_reducible refine (GH.out).mono ?_); rintro e w3 ⟨rfl, hd3⟩; have HD3 := Lib.hid hd3; have hz3 := hd3.size; clear hd3)
          obtain ⟨X2, hX2⟩ : ∃ X2, X2 = w3.alloc (.cells #[.int .i64 m.id, .int .i64 m2.fr, .int .i64 m2.to, .int .i64 m2.pr] 30 (0, 0)) := ⟨_, rfl⟩
          have HW3 : Hid (Below X.heap.size X X2) := by rw [hX2]; exact HD3.out.alloc hz3 _
          have HC2 : Hid (∀ w', Below X2.heap.size X2 w' → w'.cell? ⟨wr.heap.size, 0, none⟩ = some (.int .i64 m.id) ∧ w'.cell? ⟨wr.heap.size, 1, none⟩ = some (.int .i64 m.fr) ∧ w'.cell? ⟨wr.heap.size, 2, none⟩ = some (.int .i64 m.to) ∧ w'.cell? ⟨wr.heap.size, 3, none⟩ = some (.int .i64 m.pr)) := fun w' hb => (HBX0.out.below (HW3.out.trans (hb.mono HW3.out.size)) hzX).cells
          have HSB : Hid (∀ w', Below X2.heap.size X2 w' → Both w' B s b r K) := fun w' hb => HS.out.below (HW3.out.trans (hb.mono HW3.out.size))
          have HRB : Hid (∀ w', Below X2.heap.size X2 w' → RefIn w' r A q c' K) := fun w' hb => HRX0.out.below (HW3.out.trans (hb.mono HW3.out.size))
          have HW2 : Hid (Below wr.heap.size wr X2) := HAX.out.trans (HW3.out.mono (by omega))
          obtain ⟨v, HV⟩ : ∃ v : Int, Hid ((depN [] K m.id : Int) = v) := ⟨_, rfl⟩
          rw [← hX2]
          clear hX2
          go_region_held3 (fun w' => w'.cell? ⟨wr.heap.size, 0, none⟩ = some (.int .i64 m.id) ∧ w'.cell? ⟨wr.heap.size, 1, none⟩ = some (.int .i64 m.fr) ∧ w'.cell? ⟨wr.heap.size, 2, none⟩ = some (.int .i64 m.to) ∧ w'.cell? ⟨wr.heap.size, 3, none⟩ = some (.int .i64 m.pr)) (exact HC2.out _ (by repeat (first | exact HYd.out | exact HYc.out | exact HYb.out | exact HYa.out | exact Below.refl _ _ | refine Below.drew ?_)))
            ((first
              | (go_at_call 43; (with_reducible refine (asked_any _ B s b r K m.fr m.to (HSB.out _ (by repeat (first | exact HYd.out | exact HYc.out | exact HYb.out | exact HYa.out | exact Below.refl _ _ | refine Below.drew ?_)))).mono ?_); rintro e u1 ⟨rfl, hda⟩; have HYa : Hid (Below X2.heap.size X2 u1) := Below.trans (by repeat (first | exact HYd.out | exact HYc.out | exact HYb.out | exact HYa.out | exact Below.refl _ _ | refine Below.drew ?_)) (hda.mono (by first | exact Nat.le_refl _ | exact HYd.out.size | exact HYc.out.size | exact HYb.out.size | exact HYa.out.size)); clear hda)
              | (go_at_call 34; (with_reducible refine (find_any _ r A q c' K m.id kk HFI (HRB.out _ (by repeat (first | exact HYd.out | exact HYc.out | exact HYb.out | exact HYa.out | exact Below.refl _ _ | refine Below.drew ?_))) hq2).mono ?_); rintro e w' ⟨rfl, rfl⟩)
              | (go_at_call 14; (with_reducible refine (depth_k _ B s b K m.id v HV (HSB.out _ (by repeat (first | exact HYd.out | exact HYc.out | exact HYb.out | exact HYa.out | exact Below.refl _ _ | refine Below.drew ?_))).set).mono ?_); rintro e u2 ⟨rfl, hdb⟩; have HYb : Hid (Below X2.heap.size X2 u2) := Below.trans (by repeat (first | exact HYd.out | exact HYc.out | exact HYb.out | exact HYa.out | exact Below.refl _ _ | refine Below.drew ?_)) (hdb.mono (by first | exact Nat.le_refl _ | exact HYd.out.size | exact HYc.out.size | exact HYb.out.size | exact HYa.out.size)); clear hdb)
              | (go_at_call 20; (with_reducible refine (rdepth_any _ r A q c' K m.id v HV (HRB.out _ (by repeat (first | exact HYd.out | exact HYc.out | exact HYb.out | exact HYa.out | exact Below.refl _ _ | refine Below.drew ?_))) HID.out hq2).mono ?_); rintro e u3 ⟨rfl, hdc⟩; have HYc : Hid (Below X2.heap.size X2 u3) := Below.trans (by repeat (first | exact HYd.out | exact HYc.out | exact HYb.out | exact HYa.out | exact Below.refl _ _ | refine Below.drew ?_)) (hdc.mono (by first | exact Nat.le_refl _ | exact HYd.out.size | exact HYc.out.size | exact HYb.out.size | exact HYa.out.size)); clear hdc)))
          all_goals
            have HZ : Hid (Both _ B s b r K) := Lib.hid (HSB.out _ HYc.out)
            go_wp2_with (go_at_call 44; (with_reducible refine (same_any _ B s b r K HZ.out).mono ?_); rintro e w9 ⟨rfl, hd9⟩; have HD9 := Lib.hid hd9; clear hd9)
            exact ⟨⟨k + 1, _, _, rfl, by omega, by omega, by go_num, HZ.out.below HD9.out, HBX.out.trans ((HW2.out.trans ((HYc.out.trans (HD9.out.mono HYc.out.size)).mono HW2.out.size)).mono hBw)⟩, by simp [intOf]; omega⟩
        · have hb' : hasB K m.id = false := by simpa using hb
          have HFI := Lib.hid (fidx_miss hb')
          have HMISS := Lib.hid (hasB_false hb')
          clear hb hb'
          go_wp2_with (go_at_call 29; (with_reducible refine (get_n _ B s b K m.id HS.out.set HMISS.out).mono ?_); rintro e w3 ⟨rfl, hd3⟩; have HD3 := Lib.hid hd3; have hz3 := hd3.size; clear hd3)
          obtain ⟨X2, hX2⟩ : ∃ X2, X2 = w3.alloc (.cells #[.int .i64 0, .int .i64 0, .int .i64 0, .int .i64 0] 30 (0, 0)) := ⟨_, rfl⟩
          have HW3 : Hid (Below X.heap.size X X2) := by rw [hX2]; exact HD3.out.alloc hz3 _
          have HC2 : Hid (∀ w', Below X2.heap.size X2 w' → w'.cell? ⟨wr.heap.size, 0, none⟩ = some (.int .i64 m.id) ∧ w'.cell? ⟨wr.heap.size, 1, none⟩ = some (.int .i64 m.fr) ∧ w'.cell? ⟨wr.heap.size, 2, none⟩ = some (.int .i64 m.to) ∧ w'.cell? ⟨wr.heap.size, 3, none⟩ = some (.int .i64 m.pr)) := fun w' hb => (HBX0.out.below (HW3.out.trans (hb.mono HW3.out.size)) hzX).cells
          have HSB : Hid (∀ w', Below X2.heap.size X2 w' → Both w' B s b r K) := fun w' hb => HS.out.below (HW3.out.trans (hb.mono HW3.out.size))
          have HRB : Hid (∀ w', Below X2.heap.size X2 w' → RefIn w' r A q c' K) := fun w' hb => HRX0.out.below (HW3.out.trans (hb.mono HW3.out.size))
          have HW2 : Hid (Below wr.heap.size wr X2) := HAX.out.trans (HW3.out.mono (by omega))
          obtain ⟨v, HV⟩ : ∃ v : Int, Hid ((depN [] K m.id : Int) = v) := ⟨_, rfl⟩
          rw [← hX2]
          clear hX2
          go_region_held3 (fun w' => w'.cell? ⟨wr.heap.size, 0, none⟩ = some (.int .i64 m.id) ∧ w'.cell? ⟨wr.heap.size, 1, none⟩ = some (.int .i64 m.fr) ∧ w'.cell? ⟨wr.heap.size, 2, none⟩ = some (.int .i64 m.to) ∧ w'.cell? ⟨wr.heap.size, 3, none⟩ = some (.int .i64 m.pr)) (exact HC2.out _ (by repeat (first | exact HYd.out | exact HYc.out | exact HYb.out | exact HYa.out | exact Below.refl _ _ | refine Below.drew ?_)))
            ((first
              | (go_at_call 43; (with_reducible refine (asked_any _ B s b r K m.fr m.to (HSB.out _ (by repeat (first | exact HYd.out | exact HYc.out | exact HYb.out | exact HYa.out | exact Below.refl _ _ | refine Below.drew ?_)))).mono ?_); rintro e u1 ⟨rfl, hda⟩; have HYa : Hid (Below X2.heap.size X2 u1) := Below.trans (by repeat (first | exact HYd.out | exact HYc.out | exact HYb.out | exact HYa.out | exact Below.refl _ _ | refine Below.drew ?_)) (hda.mono (by first | exact Nat.le_refl _ | exact HYd.out.size | exact HYc.out.size | exact HYb.out.size | exact HYa.out.size)); clear hda)
              | (go_at_call 34; (with_reducible refine (find_any _ r A q c' K m.id (-1) HFI (HRB.out _ (by repeat (first | exact HYd.out | exact HYc.out | exact HYb.out | exact HYa.out | exact Below.refl _ _ | refine Below.drew ?_))) hq2).mono ?_); rintro e w' ⟨rfl, rfl⟩)
              | (go_at_call 14; (with_reducible refine (depth_k _ B s b K m.id v HV (HSB.out _ (by repeat (first | exact HYd.out | exact HYc.out | exact HYb.out | exact HYa.out | exact Below.refl _ _ | refine Below.drew ?_))).set).mono ?_); rintro e u2 ⟨rfl, hdb⟩; have HYb : Hid (Below X2.heap.size X2 u2) := Below.trans (by repeat (first | exact HYd.out | exact HYc.out | exact HYb.out | exact HYa.out | exact Below.refl _ _ | refine Below.drew ?_)) (hdb.mono (by first | exact Nat.le_refl _ | exact HYd.out.size | exact HYc.out.size | exact HYb.out.size | exact HYa.out.size)); clear hdb)
              | (go_at_call 20; (with_reducible refine (rdepth_any _ r A q c' K m.id v HV (HRB.out _ (by repeat (first | exact HYd.out | exact HYc.out | exact HYb.out | exact HYa.out | exact Below.refl _ _ | refine Below.drew ?_))) HID.out hq2).mono ?_); rintro e u3 ⟨rfl, hdc⟩; have HYc : Hid (Below X2.heap.size X2 u3) := Below.trans (by repeat (first | exact HYd.out | exact HYc.out | exact HYb.out | exact HYa.out | exact Below.refl _ _ | refine Below.drew ?_)) (hdc.mono (by first | exact Nat.le_refl _ | exact HYd.out.size | exact HYc.out.size | exact HYb.out.size | exact HYa.out.size)); clear hdc)))
          all_goals
            have HZ : Hid (Both _ B s b r K) := Lib.hid (HSB.out _ HYc.out)
            go_wp2_with (go_at_call 44; (with_reducible refine (same_any _ B s b r K HZ.out).mono ?_); rintro e w9 ⟨rfl, hd9⟩; have HD9 := Lib.hid hd9; clear hd9)
            exact ⟨⟨k + 1, _, _, rfl, by omega, by omega, by go_num, HZ.out.below HD9.out, HBX.out.trans ((HW2.out.trans ((HYc.out.trans (HD9.out.mono HYc.out.size)).mono HW2.out.size)).mono hBw)⟩, by simp [intOf]; omega⟩
      · have hn0 : (h == 0) = false := by simp; omega
        have hn1 : (h == 1) = false := by simp; omega
        have hn2 : (h == 2) = false := by simp; omega
        have hn3 : (h == 3) = false := by simp; omega
        have hn4 : (h == 4) = false := by simp; omega
        have HF : Hid (Both X B s b r K ∧ Below B X X) := ⟨HS.out, Below.refl _ _⟩
        have HZ := Lib.hid HF.out.1
        go_wp2_with (go_at_call 44; (with_reducible refine (same_any _ B s b r K HZ.out).mono ?_); rintro e w9 ⟨rfl, hd9⟩; have HD9 := Lib.hid hd9; clear hd9)
        exact ⟨⟨k + 1, _, _, rfl, by omega, by omega, by go_num, HZ.out.below HD9.out, HBX.out.trans (HWX.out.trans (HF.out.2.trans (HD9.out.mono HZ.out.set.size.2.2)))⟩, by simp [intOf]; omega⟩
    · have HBX := Lib.hid hbx
      clear hbx
      by_cases hlt1 : k < n
      · have hk3 : decide ((k : Int) < 60) = false := by simp; omega
        go_wp2
        go_ret
        exact ⟨rfl, HBX.out⟩
      · go_wp2
        go_ret
        exact ⟨rfl, HBX.out⟩
end Go.Proofs.Ytkibhinpbpgkeaa
