/- The walks of Add and Remove of the reference; the deeds in one form. -/
import Derived.Test.YtkibhinpbpgkeaaRc
import Derived.Test.YtkibhinpbpgkeaaRd
import Derived.Test.YtkibhinpbpgkeaaRe
namespace Go.Proofs.Ytkibhinpbpgkeaa
open Go.RowKit Go.ChangeMaps

/-- The deeds of the treap. -/
theorem set_add (W : World) (s b : Nat) (t : TR) (K : List Mk) (m : Mk) (v : Int) (hv : Hid (addN K m = v)) (hK : Hid (t.list = K)) (h : SetIn W s b t) : Calls Try.prog 12 #[.pointer (some ⟨s, 0, none⟩), .agg #[.int .i64 m.id, .int .i64 m.fr, .int .i64 m.to, .int .i64 m.pr]] W
    fun e w' => e = .returned (.int .i64 v) ∧ Left W s b t (addL K m) w' := by
  rw [← hv.out, ← hK.out]
  by_cases hn : addN t.list m = 0
  · refine (add_yes W s b t m h hn).mono ?_
    rintro e w' ⟨rfl, hl⟩
    rw [hn, show addL t.list m = ins t.list m from by simp [addL, hn]]
    exact ⟨rfl, hl⟩
  · refine (add_no W s b t m h hn).mono ?_
    rintro e w' ⟨rfl, hb⟩
    rw [show addL t.list m = t.list from by simp [addL, hn]]
    exact ⟨rfl, Left.same h hb⟩
theorem set_rem (W : World) (s b : Nat) (t : TR) (K : List Mk) (i : Int) (v : Int) (hv : Hid (remN K i = v)) (hK : Hid (t.list = K)) (h : SetIn W s b t) : Calls Try.prog 13 #[.pointer (some ⟨s, 0, none⟩), .int .i64 i] W
    fun e w' => e = .returned (.int .i64 v) ∧ Left W s b t (del K i) w' := by
  rw [← hv.out, ← hK.out]
  by_cases hn : hasB t.list i = true
  · obtain ⟨m, hm, rfl⟩ := hasB_true hn
    refine (rem_yes W s b t m h hm).mono ?_
    rintro e w' ⟨rfl, hl⟩
    exact ⟨by simp [remN, hn], hl⟩
  · have hn' : hasB t.list i = false := by simpa using hn
    refine (rem_no W s b t i h hn').mono ?_
    rintro e w' ⟨rfl, hb⟩
    rw [del_none _ _ (hasB_false hn')]
    exact ⟨by simp [remN, hn'], Left.same h hb⟩
theorem set_mov (W : World) (s b : Nat) (t : TR) (K : List Mk) (i f o : Int) (v : Int) (hv : Hid (movN K i f o = v)) (hK : Hid (t.list = K)) (h : SetIn W s b t) : Calls Try.prog 41 #[.pointer (some ⟨s, 0, none⟩), .int .i64 i, .int .i64 f, .int .i64 o] W
    fun e w' => e = .returned (.int .i64 v) ∧ Left W s b t (movL K i f o) w' := by
  rw [← hv.out, ← hK.out]
  by_cases hn : hasB t.list i = true
  · by_cases hf : mayB f o = true
    · obtain ⟨m, hm, rfl⟩ := hasB_true hn
      refine (mov_yes W s b t m f o h hm hf).mono ?_
      rintro e w' ⟨rfl, hl⟩
      rw [show movL t.list m.id f o = ins (del t.list m.id) ⟨m.id, f, o, m.pr⟩ from by simp only [movL, find_of h.ids hm, hf, if_true]]
      exact ⟨by simp [movN, hn, hf], hl⟩
    · have hf' : mayB f o = false := by simpa using hf
      refine (mov_bad W s b t i f o h hn hf').mono ?_
      rintro e w' ⟨rfl, hb⟩
      rw [show movL t.list i f o = t.list from by unfold movL; split <;> simp [hf']]
      exact ⟨by simp [movN, hn, hf'], Left.same h hb⟩
  · have hn' : hasB t.list i = false := by simpa using hn
    refine (mov_none W s b t i f o h hn').mono ?_
    rintro e w' ⟨rfl, hb⟩
    rw [show movL t.list i f o = t.list from by unfold movL; rw [find_miss (hasB_false hn')]]
    exact ⟨by simp [movN, hn'], Left.same h hb⟩

theorem put_pos (K : List Mk) (m : Mk) : ∃ p, p ≤ K.length ∧ (∀ j, j < p → lt (K.getD j ⟨0, 0, 0, 0⟩) m = true) ∧ (p < K.length → lt (K.getD p ⟨0, 0, 0, 0⟩) m = false) := by
  refine ⟨K.findIdx fun x => !lt x m, List.findIdx_le_length, fun j hj => ?_, fun hp => ?_⟩
  · have hl : K.findIdx (fun x => !lt x m) ≤ K.length := List.findIdx_le_length
    have h := List.not_of_lt_findIdx hj
    rw [getD_get (by omega)]
    simpa using h
  · have h := List.findIdx_getElem (w := hp)
    rw [getD_get hp]
    simpa using h
theorem put_ref (W : World) (r : Nat) (A : Option Addr) (n c : Nat) (K : List Mk) (m : Mk) (h : RefIn W r A n c K) (hn : n ≤ 600) :
    Calls Try.prog 35 #[.pointer (some ⟨r, 0, none⟩), .agg #[.int .i64 m.id, .int .i64 m.fr, .int .i64 m.to, .int .i64 m.pr]] W fun e w' => e = .returned (.tuple #[]) ∧ RefLeft W r A (ins K m) w' := by
  obtain ⟨p, hp, h1, h2⟩ := put_pos K m
  have hl := h.len
  by_cases hpl : p < K.length
  · exact put_in W r A n c p K m h hn (by omega) h1 (h2 hpl)
  · exact put_end W r A n c p K m h hn (by omega) h1
theorem bad_v (f t : Int) (v : Bool) (hv : Hid ((!mayB f t) = v)) (w : World) : Calls Try.prog 33 #[.int .i64 f, .int .i64 t] w fun e w' => e = .returned (.bool v) ∧ w = w' := by
  have h := hv.out; subst h; exact bad_any f t w
theorem RefLeft.pre {W X w' : World} {r : Nat} {A : Option Addr} {K : List Mk} (hb : Below W.heap.size W X) (h : RefLeft X r A K w') : RefLeft W r A K w' := by
  obtain ⟨A', n', c', h1, h2, h3⟩ := h
  refine ⟨A', n', c', h1, fun ad e => (h2 ad e).imp id fun h => Nat.le_trans hb.size h, (Chg.of_below hb).trans h3⟩
theorem fidx_neg {K : List Mk} {i : Int} {v : Int} (h : fidx K i = v) : v < 0 ↔ hasB K i = false := by
  subst h
  unfold fidx
  by_cases hh : hasB K i = true
  · rw [if_pos hh]; simp [hh]
  · rw [if_neg hh]; simp at hh; simp [hh]

set_option maxHeartbeats 1000000 in
theorem ref_add (W : World) (r : Nat) (A : Option Addr) (n c : Nat) (K : List Mk) (m : Mk) (v : Int) (hv : Hid (addN K m = v)) (h : RefIn W r A n c K) (hn : n ≤ 600) : Calls Try.prog 18 #[.pointer (some ⟨r, 0, none⟩), .agg #[.int .i64 m.id, .int .i64 m.fr, .int .i64 m.to, .int .i64 m.pr]] W
    fun e w' => e = .returned (.int .i64 v) ∧ RefLeft W r A (addL K m) w' := by
  have HBX : ∀ o, Below W.heap.size W (W.alloc o) := fun o => (Below.refl _ _).alloc (Nat.le_refl _) o
  have HH : Hid (∀ o, RefIn (W.alloc o) r A n c K) := fun o => h.below (HBX o)
  have HB := Lib.hid HBX
  have H0 := Lib.hid h
  have hr0 := h.lt
  have hl := h.len
  obtain ⟨x, hx⟩ : ∃ x, fidx K m.id = x := ⟨_, rfl⟩
  have hneg := fidx_neg hx
  have HX := Lib.hid hx
  rw [← hv.out]
  clear h hv HBX hx
  by_cases h1 : mayB m.fr m.to = false
  · have HV : Hid ((!mayB m.fr m.to) = true) := by simp [Hid, h1]
    have e1 : addN K m = 2 := by simp [addN, h1]
    have e2 : addL K m = K := by simp [addL, e1]
    rw [e1, e2]
    clear e1 e2 h1
    go_enter Try.func18, Try.ntmps18
    go_wp2_with (go_at_call 33; (with_reducible refine (bad_v m.fr m.to true HV _).mono ?_); rintro e w' ⟨rfl, rfl⟩)
    go_ret
    exact ⟨rfl, RefLeft.same H0.out (HB.out _)⟩
  · have h1' : mayB m.fr m.to = true := by simpa using h1
    have HV : Hid ((!mayB m.fr m.to) = false) := by simp [Hid, h1']
    by_cases h2 : hasB K m.id = true
    · have e1 : addN K m = 1 := by simp [addN, h1', h2]
      have e2 : addL K m = K := by simp [addL, e1]
      have hx0 : 0 ≤ x := by
        have : ¬ x < 0 := fun h => by rw [hneg.1 h] at h2; cases h2
        omega
      rw [e1, e2]
      clear e1 e2 h1 h1' h2 hneg
      go_enter Try.func18, Try.ntmps18
      go_wp2_with (first
        | (go_at_call 33; (with_reducible refine (bad_v m.fr m.to false HV _).mono ?_); rintro e w' ⟨rfl, rfl⟩)
        | (go_at_call 34; (with_reducible refine (find_any _ r A n c K m.id x HX (HH.out _) (by omega)).mono ?_); rintro e w' ⟨rfl, rfl⟩))
      go_ret
      exact ⟨rfl, RefLeft.same H0.out (HB.out _)⟩
    · have h2' : hasB K m.id = false := by simpa using h2
      have hx0 : x < 0 := hneg.2 h2'
      have c0 : ∀ o, (W.alloc o).cell? ⟨r, 0, none⟩ = some (.slice A n c) := fun o => (HH.out o).cell
      by_cases h3 : 600 ≤ K.length
      · have e1 : addN K m = 3 := by simp [addN, h1', h2', h3]
        have e2 : addL K m = K := by simp [addL, e1]
        have h3' : decide ((n : Int) ≥ 600) = true := by simp; omega
        rw [e1, e2]
        clear e1 e2 h1 h1' h2 h2' hneg
        go_enter Try.func18, Try.ntmps18
        go_wp2_with (first
          | (go_at_call 33; (with_reducible refine (bad_v m.fr m.to false HV _).mono ?_); rintro e w' ⟨rfl, rfl⟩)
          | (go_at_call 34; (with_reducible refine (find_any _ r A n c K m.id x HX (HH.out _) (by omega)).mono ?_); rintro e w' ⟨rfl, rfl⟩))
        go_ret
        exact ⟨rfl, RefLeft.same H0.out (HB.out _)⟩
      · have e1 : addN K m = 0 := by simp [addN, h1', h2', h3]
        have e2 : addL K m = ins K m := by simp [addL, e1]
        have h3' : decide ((n : Int) ≥ 600) = false := by simp; omega
        have h3n : n < 600 := by omega
        rw [e1, e2]
        clear e1 e2 h1 h1' h2 h2' hneg h3
        go_enter Try.func18, Try.ntmps18
        go_wp2_with (first
          | (go_at_call 33; (with_reducible refine (bad_v m.fr m.to false HV _).mono ?_); rintro e w' ⟨rfl, rfl⟩)
          | (go_at_call 34; (with_reducible refine (find_any _ r A n c K m.id x HX (HH.out _) (by omega)).mono ?_); rintro e w' ⟨rfl, rfl⟩)
          | (go_at_call 35; (with_reducible refine (put_ref _ r A n c K m (HH.out _) hn).mono ?_); rintro e w' ⟨rfl, hl2⟩))
        go_ret
        exact ⟨rfl, RefLeft.pre (HB.out _) hl2⟩
theorem ref_rem (W : World) (r : Nat) (A : Option Addr) (n c : Nat) (K : List Mk) (i : Int) (v : Int) (hv : Hid (remN K i = v)) (h : RefIn W r A n c K) (hid : Ids K) (hn : n ≤ 600) : Calls Try.prog 40 #[.pointer (some ⟨r, 0, none⟩), .int .i64 i] W
    fun e w' => e = .returned (.int .i64 v) ∧ RefLeft W r A (del K i) w' := by
  have H0 := Lib.hid h
  rw [← hv.out]
  by_cases h2 : hasB K i = true
  · obtain ⟨k, m, hk, hm, hi, hf⟩ := fidx_hit h2
    have HX := Lib.hid hf
    have hd := del_at hid hk hm
    have HT : Hid (Calls Try.prog 50 #[.pointer (some ⟨r, 0, none⟩), .int .i64 k] W fun e w' => e = .returned (.tuple #[]) ∧ RefLeft W r A (del K i) w') := by
      have ht := take_ref W r A n c k K h (by omega) (by rw [← h.len]; exact hk)
      rw [hd, hi] at ht
      exact ht
    have hk0 : 0 ≤ (k : Int) := by omega
    rw [show remN K i = 0 from by simp [remN, h2]]
    clear h hv h2 hd hm hi hf hid
    go_enter Try.func40, Try.ntmps40
    go_wp2_with (first
      | (go_at_call 34; (with_reducible refine (find_any _ r A n c K i k HX H0.out (by omega)).mono ?_); rintro e w' ⟨rfl, rfl⟩)
      | (go_at_call 50; (with_reducible refine (HT.out).mono ?_); rintro e w' ⟨rfl, hl2⟩))
    go_ret
    exact ⟨rfl, hl2⟩
  · have h2' : hasB K i = false := by simpa using h2
    have HX := Lib.hid (fidx_miss h2')
    have hd := del_none _ _ (hasB_false h2')
    rw [show remN K i = 4 from by simp [remN, h2'], hd]
    clear h hv h2 h2' hd
    go_enter Try.func40, Try.ntmps40
    go_wp2_with (go_at_call 34; (with_reducible refine (find_any _ r A n c K i (-1) HX H0.out (by omega)).mono ?_); rintro e w' ⟨rfl, rfl⟩)
    go_ret
    exact ⟨rfl, RefLeft.same H0.out (Below.refl _ _)⟩
end Go.Proofs.Ytkibhinpbpgkeaa
