/- The walk of Text. -/
import Derived.Test.YtpfceochplghlaaYa
namespace Go.Proofs.Ytpfceochplghlaa
open Go.RowKit
attribute [local go_sem ↓] Go.wp_at_zero Go.wp_at_succ

theorem textL_len {T : Tb} (h : T.Ok) : ∀ L : List Pc, (∀ p ∈ L, p ∈ T.ps) → (L.flatMap T.pc).length = plen L := by
  intro L
  induction L with
  | nil => intro _; rfl
  | cons p L ih =>
    intro hL
    rw [List.flatMap_cons, List.length_append, plen_cons, ih fun q hq => hL q (by simp [hq]), pc_len h (hL p (by simp))]
theorem text_len {T : Tb} (h : T.Ok) : T.text.length = plen T.ps := textL_len h T.ps fun _ hp => hp

set_option maxHeartbeats 1000000 in
theorem text_any (W : World) (t : Nat) (F : List Nat) (T : Tb) (h : TabIn W t F T) :
    Calls Try.prog 26 #[.pointer (some ⟨t, 0, none⟩)] W fun e w' => ∃ v, e = .returned v ∧ w'.ownsRow W.heap.size 21 1 v (plen T.ps) (T.text.map (Value.int .i32)) ∧ Below W.heap.size W w' := by
  obtain ⟨i0, hi0, hz0, hz1, hz2⟩ := info_parts info21
  have HT := Lib.hid h
  have HOK := Lib.hid h.ok
  obtain ⟨A0, n0, c0, A1, n1, c1, A2, n2, c2, hat, hFF, _⟩ := h
  have HAT := Lib.hid hat
  have HL := Lib.hid hat.lens.2.2
  obtain ⟨z0, z1, z2, z3⟩ := hat.cells
  have htl := hat.lt t (by simp)
  have hn2 : n2 ≤ 1000 := by have h1 := count_le HOK.out.pos; have h2 := HOK.out.len; have h3 := HL.out; omega
  clear z0 z1 z3 hat hFF
  have HZ2 := Lib.hid z2
  go_enter Try.func26, Try.ntmps26
  go_wp2
  go_loopw [3, 14] (fun o i wr => ∃ (k : Nat) (v : Value) (w0 : World), w0 = wr ∧ k ≤ n2 ∧ i = .int .i64 k ∧ v = o ∧ Hid (wr.ownsRow W.heap.size 21 1 v (plen (T.ps.take k)) (((T.ps.take k).flatMap T.pc).map (Value.int .i32))) ∧ Hid (Below W.heap.size W wr)) (fun _ i _ => n2 - (intOf i).toNat)
  case atStart => exact ⟨0, _, _, rfl, Nat.zero_le _, rfl, rfl, World.ownsRow_nil _ _ _ _, Below.refl _ _⟩
  case round =>
    obtain ⟨k, v, wr, rfl, hk, rfl, rfl, HO, HB⟩ := hrel

    have z2 := (HB.out.cell (p := ⟨t, 2, none⟩) htl).trans HZ2.out
    by_cases hlt : k < n2
    · obtain ⟨g, p, rfl, hg, hpm, HP, y0, y1, y2⟩ := prow_at (HAT.out.below HB.out).r2 hlt
      obtain ⟨pa, pf, pl⟩ := p
      simp only at y0 y1 y2
      have hJ1 : (0 : Int) ≤ (k : Int) ∧ (k : Int) < (n2 : Int) := by omega
      obtain ⟨hJ1a, hJ1b⟩ := hJ1
      have HPM := Lib.hid hpm
      have hsz := HB.out.size
      have HSZ := Lib.hid hsz
      have htk := take_getDp (L := T.ps) (k := k) (by rw [HL.out]; exact hlt) HP.out
      have HTK : Hid (plen (T.ps.take (k + 1)) = plen (T.ps.take k) + pl ∧ (T.ps.take (k + 1)).flatMap T.pc = (T.ps.take k).flatMap T.pc ++ T.pc ⟨pa, pf, pl⟩) := by
        show _ ∧ _
        rw [htk, plen_append, plen_cons, plen_nil, List.flatMap_append]
        exact ⟨rfl, by simp⟩
      have hsum : plen (T.ps.take k) + pl ≤ 1000 := by
        have h1 := plen_take_le T.ps (k + 1)
        have h2 := HOK.out.len
        have h3 := HTK.out.1
        omega
      clear hpm htk
      go_wp2_with (first
        | (go_at_call 45; (with_reducible refine (of_any (wr.alloc (.cells #[.bool pa, .int .i64 pf, .int .i64 pl] 53 (0, 0))) t F T pa pf pl ((HT.out.below HB.out).below ((Below.refl _ _).alloc (Nat.le_refl _) _)) HPM.out).mono ?_); rintro e w5 ⟨A5, c5, rfl, hr5, hb5⟩; have HR5 := Lib.hid hr5; have HB5 : Hid (Below wr.heap.size wr w5) := ((Below.refl _ _).alloc (Nat.le_refl _) _).trans (hb5.mono (by simp)); clear hr5 hb5)
        | (at_builtin; refine append_rds rfl (.tmp 18) (.tmp 21) 23 rfl W.heap.size 21 i0 _ 1 4 Try.underlying23 hi0 hz0 hz1 hz2 rfl (by omega) v _ _ rfl (own_below HO.out HB5.out (fun k hk => (HO.out.lt k hk).2)) _ A5 pl c5 _ rfl HR5.out (oneCell_ints _) (by simp only [maxLen]; omega) (by omega) (by have := HB5.out.size; have := HSZ.out; omega) ?_; intro v6 w6 hown6 hg6 hat6; have HO6 := Lib.hid hown6; have HB6 : Hid (Below W.heap.size W w6) := (HB.out.trans (HB5.out.mono HSZ.out)).grown hg6 (by have := HB5.out.size; have := HSZ.out; omega) (fun k hk => (HO.out.lt k hk).1); clear hown6 hg6 hat6))
      go_roundw
      case rel =>
        refine ⟨k + 1, v6, _, rfl, by omega, by go_num, rfl, ?_, HB6.out⟩
        have h1 := HO6.out
        rw [← List.map_append, ← HTK.out.2, ← HTK.out.1] at h1
        exact h1
      case measure => simp [intOf]; omega
    · have hkn : k = n2 := by omega
      have HO' : Hid (wr.ownsRow W.heap.size 21 1 v (plen T.ps) (T.text.map (Value.int .i32))) := by
        have h1 := HO.out
        rw [List.take_of_length_le (by rw [HL.out]; omega)] at h1
        exact h1
      go_wp2
      go_ret
      exact ⟨v, rfl, HO'.out, HB.out⟩
end Go.Proofs.Ytpfceochplghlaa
