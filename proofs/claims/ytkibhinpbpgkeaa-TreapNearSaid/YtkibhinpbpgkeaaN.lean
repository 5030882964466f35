/- The walks of those, Stab, Within. -/
import Derived.Test.YtkibhinpbpgkeaaM
namespace Go.Proofs.Ytkibhinpbpgkeaa
open Go.RowKit Go.ChangeMaps

theorem info3 : (Try.prog.info? 3).map (fun i => (i.zero, i.size, i.bytes)) = some (some (.int .i64 0), 1, 8) := by kernel_rfl
/-- The numbers of marks. -/
def vids (L : List Mk) : List Value := L.map fun m => .int .i64 m.id
theorem vids_eq (L : List Mk) : vids L = (L.map (·.id)).map (Value.int .i64) := by simp [vids]
theorem cells4_at (K : List Mk) : ∀ (k j : Nat), k < K.length → j < 4 → (cells4 K)[k * 4 + j]? = [Value.int .i64 (K.getD k ⟨0, 0, 0, 0⟩).id, Value.int .i64 (K.getD k ⟨0, 0, 0, 0⟩).fr, Value.int .i64 (K.getD k ⟨0, 0, 0, 0⟩).to, Value.int .i64 (K.getD k ⟨0, 0, 0, 0⟩).pr][j]? := by
  induction K with
  | nil => intro k j h; simp at h
  | cons m K ih =>
    intro k j h hj
    have e : cells4 (m :: K) = [.int .i64 m.id, .int .i64 m.fr, .int .i64 m.to, .int .i64 m.pr] ++ cells4 K := rfl
    rw [e]
    cases k with
    | zero =>
      rw [List.getElem?_append_left (by simp; omega)]
      simp
    | succ k =>
      rw [List.getElem?_append_right (by simp; omega)]
      have e2 : (k + 1) * 4 + j - [Value.int .i64 m.id, .int .i64 m.fr, .int .i64 m.to, .int .i64 m.pr].length = k * 4 + j := by simp; omega
      rw [e2, ih k j (by simpa using h) hj]
      simp [List.getD]
theorem mark_at {w1 wr : World} {base g n p k : Nat} {K : List Mk} (ho : w1.ownsRow base 30 4 (.slice (some ⟨g, 0, none⟩) n p) K.length (cells4 K)) (hg : g < w1.heap.size) (hb : Below w1.heap.size w1 wr) (hk : k < K.length) :
    wr.cell? ⟨g, k * 4, none⟩ = some (.int .i64 (K.getD k ⟨0, 0, 0, 0⟩).id) ∧ wr.cell? ⟨g, k * 4 + 1, none⟩ = some (.int .i64 (K.getD k ⟨0, 0, 0, 0⟩).fr) ∧ wr.cell? ⟨g, k * 4 + 2, none⟩ = some (.int .i64 (K.getD k ⟨0, 0, 0, 0⟩).to) ∧ wr.cell? ⟨g, k * 4 + 3, none⟩ = some (.int .i64 (K.getD k ⟨0, 0, 0, 0⟩).pr) := by
  have hc : ∀ j, j < 4 → wr.cell? ⟨g, k * 4 + j, none⟩ = (cells4 K)[k * 4 + j]? := by
    intro j hj
    have hl := cells4_len K
    have hjl : k * 4 + j < (cells4 K).length := by omega
    rw [hb.cell (p := ⟨g, k * 4 + j, none⟩) hg]
    have h := (Rds.of_own (c := p) (A := some ⟨g, 0, none⟩) (n := K.length) (by
      have := own_cap ho
      rw [← this.1]
      rw [this.1] at ho ⊢
      exact ho)).2 (k * 4 + j) hjl
    obtain ⟨ad, he, _, hcell⟩ := h
    cases he
    rw [← hcell]
    congr 1
    unfold Addr.add
    split <;> simp_all
  refine ⟨?_, ?_, ?_, ?_⟩
  · exact (hc 0 (by omega)).trans (cells4_at K k 0 hk (by omega))
  · exact (hc 1 (by omega)).trans (cells4_at K k 1 hk (by omega))
  · exact (hc 2 (by omega)).trans (cells4_at K k 2 hk (by omega))
  · exact (hc 3 (by omega)).trans (cells4_at K k 3 hk (by omega))
theorem rds_one (W : World) (g B : Nat) (v : Value) (hB : g < B) (h : W.cell? ⟨g, 0, none⟩ = some v) : Rds W B 1 (some ⟨g, 0, none⟩) 1 [v] := by
  refine ⟨rfl, fun j hj => ⟨_, rfl, hB, ?_⟩⟩
  simp only [List.length_cons, List.length_nil] at hj
  have hj0 : j = 0 := by omega
  subst hj0
  exact h
theorem own_lower {w : World} {base base' z : Nat} {e : TypeId} {v : Value} {n : Nat} {xs : List Value} (h : w.ownsRow base e z v n xs) (hb : base' ≤ base) : w.ownsRow base' e z v n xs := by
  refine ⟨h.1, ?_⟩
  rcases h.2 with h0 | ⟨g, cap, cur, hv, hg, r⟩
  · exact .inl h0
  · exact .inr ⟨g, cap, cur, hv, by omega, r⟩
theorem take_filter (K : List Mk) (k : Nat) (hk : k < K.length) (p : Mk → Bool) (m : Mk) (hm : K.getD k ⟨0, 0, 0, 0⟩ = m) : (K.take (k + 1)).filter p = (K.take k).filter p ++ if p m then [m] else [] := by
  have e : m = K[k] := by rw [← hm]; simp [List.getD, hk]
  rw [List.take_succ_eq_append_getElem hk, List.filter_append, ← e]
  congr 1
  cases h : p m <;> simp [h]

def P38 (at0 : Int) (m : Mk) : Bool := decide (m.fr ≤ at0 ∧ at0 ≤ m.to)
theorem cl38_any (m : Mk) (at0 : Int) (q : Nat) (W : World) (hq : W.cell? ⟨q, 0, none⟩ = some (.int .i64 at0)) (lq : q < W.heap.size) : Calls Try.prog 38 #[.agg #[.int .i64 m.id, .int .i64 m.fr, .int .i64 m.to, .int .i64 m.pr], .pointer (some ⟨q, 0, none⟩)] W fun e w' => e = .returned (.bool (P38 at0 m)) ∧ Below W.heap.size W w' := by
  go_enter Try.func38, Try.ntmps38
  go_wp2
  all_goals
    go_ret
    refine ⟨ret_bool ?_, (Below.refl _ _).alloc (Nat.le_refl _) _⟩
    rw [Bool.eq_iff_iff]
    simp [P38] <;> omega
theorem cl38_v (m : Mk) (at0 : Int) (v : Bool) (q : Nat) (hv : Hid (P38 at0 m = v)) (W : World) (hq : W.cell? ⟨q, 0, none⟩ = some (.int .i64 at0)) (lq : q < W.heap.size) : Calls Try.prog 38 #[.agg #[.int .i64 m.id, .int .i64 m.fr, .int .i64 m.to, .int .i64 m.pr], .pointer (some ⟨q, 0, none⟩)] W fun e w' => e = .returned (.bool v) ∧ Below W.heap.size W w' := by
  have h := hv.out; subst h; exact cl38_any m at0 q W hq lq

set_option maxHeartbeats 1000000 in
theorem those38_any (W : World) (s b : Nat) (t : TR) (at0 : Int) (q : Nat) (h : SetIn W s b t) (hlen : t.list.length ≤ 1000) (hq : W.cell? ⟨q, 0, none⟩ = some (.int .i64 at0)) (lq : q < W.heap.size) :
    Calls Try.prog 37 #[.pointer (some ⟨s, 0, none⟩), .func (.func 38) #[] #[.pointer (some ⟨q, 0, none⟩)]] W fun e w' => ∃ v, e = .returned v ∧ w'.ownsRow W.heap.size 3 1 v (t.list.filter (P38 at0)).length (vids (t.list.filter (P38 at0))) ∧ Below W.heap.size W w' := by
  obtain ⟨i0, hi0, hz0, hz1, hz2⟩ := info_parts info3
  obtain ⟨K, hK⟩ : ∃ K, t.list = K := ⟨_, rfl⟩
  rw [hK] at hlen ⊢
  have HA : Hid (Calls Try.prog 16 #[.pointer (some ⟨s, 0, none⟩)] W fun e w' => ∃ A p, e = .returned (.slice A K.length p) ∧ w'.ownsRow (W.heap.size + 1) 30 4 (.slice A K.length p) K.length (cells4 K) ∧ Below W.heap.size W w') := by
    refine (all_any W s b t h (by rw [hK]; exact hlen)).mono ?_
    rintro e w' ⟨v, rfl, ho, hb⟩
    rw [hK] at ho
    obtain ⟨A, p, rfl, _, _⟩ := own_form ho
    exact ⟨A, p, rfl, ho, hb⟩
  clear h hK
  go_enter Try.func37, Try.ntmps37
  go_wp2_with (go_at_call 16; (with_reducible refine (HA.out).mono ?_); rintro e w1 ⟨A, p, rfl, hown, hb1⟩)
  have HB1 := Lib.hid hb1
  have hz := hb1.size
  have HO := Lib.hid hown
  have dq : w1.cell? ⟨q, 0, none⟩ = some (.int .i64 at0) := (HB1.out.cell (p := ⟨q, 0, none⟩) lq).trans hq
  clear hb1 hown HA
  go_loopw [5, 11] (fun o i wr => ∃ (k : Nat) (w0 : World) (Ao : Option Addr) (no po : Nat), w0 = wr ∧ k ≤ K.length ∧ i = .int .i64 k ∧ o = .slice Ao no po ∧ no ≤ k ∧ Hid (wr.ownsRow w1.heap.size 3 1 (.slice Ao no po) no (vids ((K.take k).filter (P38 at0)))) ∧ Below w1.heap.size w1 wr) (fun _ i _ => K.length - (intOf i).toNat)
  case atStart => exact ⟨0, _, none, 0, 0, rfl, Nat.zero_le _, rfl, rfl, Nat.le_refl _, World.ownsRow_nil _ _ _ _, Below.refl _ _⟩
  case round =>
    obtain ⟨k, wr, Ao, no, po, rfl, hk, rfl, rfl, hno, HX, hbx⟩ := hrel
    have hxz := hbx.size
    by_cases hlt : k < K.length
    · obtain ⟨g, cap, hv, _, hgl⟩ := HO.out.form (by omega)
      have hA : A = some ⟨g, 0, none⟩ := by injection hv
      subst hA
      have HF := Lib.hid (mark_at HO.out hgl hbx hlt)
      obtain ⟨m, Hm⟩ : ∃ m, Hid (K.getD k ⟨0, 0, 0, 0⟩ = m) := ⟨_, rfl⟩
      obtain ⟨e0, e1, e2, e3⟩ := HF.out
      rw [Hm.out] at e0 e1 e2 e3
      have Hnext := Lib.hid (take_filter K k hlt (P38 at0) m Hm.out)
      have xq : wr.cell? ⟨q, 0, none⟩ = some (.int .i64 at0) := (hbx.cell (p := ⟨q, 0, none⟩) (show q < w1.heap.size from by omega)).trans dq
      clear hv HF
      have HBX := Lib.hid hbx
      have HCL : Hid (∀ v, Hid (P38 at0 m = v) → ∀ X, Below w1.heap.size w1 X → Calls Try.prog 38 #[.agg #[.int .i64 m.id, .int .i64 m.fr, .int .i64 m.to, .int .i64 m.pr], .pointer (some ⟨q, 0, none⟩)] X fun e w' => e = .returned (.bool v) ∧ Below X.heap.size X w') := fun v hv X hb =>
        have hzz := hb.size
        cl38_v m at0 v q hv X ((hb.cell (p := ⟨q, 0, none⟩) (show q < w1.heap.size from by omega)).trans dq) (by omega)
      by_cases hp : P38 at0 m = true
      · have Hp : Hid (P38 at0 m = true) := hp
        clear hp
        go_wp2_with (first
          | (go_at_call 38; (with_reducible refine (HCL.out true Hp _ (HBX.out.alloc hxz _)).mono ?_); rintro e w2 ⟨rfl, hb2⟩; have hcl2 := cells_of hb2; have hz2' : wr.heap.size < w2.heap.size := (by have hz := hb2.size; (try simp at hz); omega); have HB2 : Hid (Below wr.heap.size wr w2) := ((Below.refl _ _).alloc (Nat.le_refl _) _).trans (hb2.mono (by simp)); clear hb2)
          | (at_builtin; refine append_rds rfl (.tmp 18) (.tmp 21) 43 rfl w1.heap.size 3 i0 _ 1 8 Try.underlying43 hi0 hz0 hz1 hz2 rfl (by omega) (.slice Ao no po) no _ rfl ((own_below HX.out HB2.out fun k hk => (HX.out.lt k hk).2).alloc _) (w2.heap.size + 1) (some ⟨w2.heap.size, 0, none⟩) 1 1 [.int .i64 m.id] (by simp [go_sem]) (rds_one _ _ _ _ (by omega) (by simp [go_sem])) (by simp [Value.oneCell']) (by simp only [maxLen]; omega) (by omega) (by simp; omega) ?_))
        intro v3 w3 hown3 hg3 hat3
        obtain ⟨A3, p3, rfl, _, _⟩ := own_form hown3
        have hb3 : Below w1.heap.size w1 w3 := (((HBX.out.trans (HB2.out.mono hxz))).alloc (by omega) _).grown hg3 (by simp; omega) fun k hk => (HX.out.lt k hk).1
        have hN : vids ((K.take (k + 1)).filter (P38 at0)) = vids ((K.take k).filter (P38 at0)) ++ [.int .i64 m.id] := by rw [Hnext.out, if_pos Hp.out]; simp [vids]
        rw [← hN] at hown3
        have HO3 := Lib.hid hown3
        clear hown3 hg3 hat3 hN
        go_wp2
        go_roundw
        case rel => exact ⟨k + 1, _, A3, no + 1, p3, rfl, by omega, by go_num, rfl, by omega, HO3, hb3⟩
        case measure => simp [intOf]; omega
      · have Hp : Hid (P38 at0 m = false) := by simpa [Hid] using hp
        clear hp
        go_wp2_with (go_at_call 38; (with_reducible refine (HCL.out false Hp _ (HBX.out.alloc hxz _)).mono ?_); rintro e w2 ⟨rfl, hb2⟩; have HB2 : Hid (Below wr.heap.size wr w2) := ((Below.refl _ _).alloc (Nat.le_refl _) _).trans (hb2.mono (by simp)); clear hb2)
        have hN : vids ((K.take (k + 1)).filter (P38 at0)) = vids ((K.take k).filter (P38 at0)) := by rw [Hnext.out, if_neg (by rw [Hp.out]; simp)]; simp
        go_roundw
        case rel => exact ⟨k + 1, _, Ao, no, po, rfl, by omega, by go_num, rfl, by omega, by rw [Hid, hN]; exact own_below HX.out HB2.out fun k hk => (HX.out.lt k hk).2, HBX.out.trans (HB2.out.mono hxz)⟩
        case measure => simp [intOf]; omega
    · have hkK : k = K.length := by omega
      subst hkK
      have HBX := Lib.hid hbx
      clear hbx
      go_wp2
      go_ret
      have ho := HX.out
      rw [List.take_length] at ho
      have hl := ho.1
      simp only [vids, List.length_map, Nat.mul_one] at hl
      subst hl
      exact ⟨_, rfl, own_lower ho hz, HB1.out.trans (HBX.out.mono hz)⟩

def P39 (f0 t0 : Int) (m : Mk) : Bool := decide (f0 ≤ m.fr ∧ m.to ≤ t0)
theorem cl39_any (m : Mk) (f0 t0 : Int) (q1 q2 : Nat) (W : World) (hq1 : W.cell? ⟨q1, 0, none⟩ = some (.int .i64 f0)) (hq2 : W.cell? ⟨q2, 0, none⟩ = some (.int .i64 t0)) (lq1 : q1 < W.heap.size) (lq2 : q2 < W.heap.size) : Calls Try.prog 39 #[.agg #[.int .i64 m.id, .int .i64 m.fr, .int .i64 m.to, .int .i64 m.pr], .pointer (some ⟨q1, 0, none⟩), .pointer (some ⟨q2, 0, none⟩)] W fun e w' => e = .returned (.bool (P39 f0 t0 m)) ∧ Below W.heap.size W w' := by
  go_enter Try.func39, Try.ntmps39
  go_wp2
  all_goals
    go_ret
    refine ⟨ret_bool ?_, (Below.refl _ _).alloc (Nat.le_refl _) _⟩
    rw [Bool.eq_iff_iff]
    simp [P39] <;> omega
theorem cl39_v (m : Mk) (f0 t0 : Int) (v : Bool) (q1 q2 : Nat) (hv : Hid (P39 f0 t0 m = v)) (W : World) (hq1 : W.cell? ⟨q1, 0, none⟩ = some (.int .i64 f0)) (hq2 : W.cell? ⟨q2, 0, none⟩ = some (.int .i64 t0)) (lq1 : q1 < W.heap.size) (lq2 : q2 < W.heap.size) : Calls Try.prog 39 #[.agg #[.int .i64 m.id, .int .i64 m.fr, .int .i64 m.to, .int .i64 m.pr], .pointer (some ⟨q1, 0, none⟩), .pointer (some ⟨q2, 0, none⟩)] W fun e w' => e = .returned (.bool v) ∧ Below W.heap.size W w' := by
  have h := hv.out; subst h; exact cl39_any m f0 t0 q1 q2 W hq1 hq2 lq1 lq2

set_option maxHeartbeats 1000000 in
theorem those39_any (W : World) (s b : Nat) (t : TR) (f0 t0 : Int) (q1 q2 : Nat) (h : SetIn W s b t) (hlen : t.list.length ≤ 1000) (hq1 : W.cell? ⟨q1, 0, none⟩ = some (.int .i64 f0)) (hq2 : W.cell? ⟨q2, 0, none⟩ = some (.int .i64 t0)) (lq1 : q1 < W.heap.size) (lq2 : q2 < W.heap.size) :
    Calls Try.prog 37 #[.pointer (some ⟨s, 0, none⟩), .func (.func 39) #[] #[.pointer (some ⟨q1, 0, none⟩), .pointer (some ⟨q2, 0, none⟩)]] W fun e w' => ∃ v, e = .returned v ∧ w'.ownsRow W.heap.size 3 1 v (t.list.filter (P39 f0 t0)).length (vids (t.list.filter (P39 f0 t0))) ∧ Below W.heap.size W w' := by
  obtain ⟨i0, hi0, hz0, hz1, hz2⟩ := info_parts info3
  obtain ⟨K, hK⟩ : ∃ K, t.list = K := ⟨_, rfl⟩
  rw [hK] at hlen ⊢
  have HA : Hid (Calls Try.prog 16 #[.pointer (some ⟨s, 0, none⟩)] W fun e w' => ∃ A p, e = .returned (.slice A K.length p) ∧ w'.ownsRow (W.heap.size + 1) 30 4 (.slice A K.length p) K.length (cells4 K) ∧ Below W.heap.size W w') := by
    refine (all_any W s b t h (by rw [hK]; exact hlen)).mono ?_
    rintro e w' ⟨v, rfl, ho, hb⟩
    rw [hK] at ho
    obtain ⟨A, p, rfl, _, _⟩ := own_form ho
    exact ⟨A, p, rfl, ho, hb⟩
  clear h hK
  go_enter Try.func37, Try.ntmps37
  go_wp2_with (go_at_call 16; (with_reducible refine (HA.out).mono ?_); rintro e w1 ⟨A, p, rfl, hown, hb1⟩)
  have HB1 := Lib.hid hb1
  have hz := hb1.size
  have HO := Lib.hid hown
  have dq1 : w1.cell? ⟨q1, 0, none⟩ = some (.int .i64 f0) := (HB1.out.cell (p := ⟨q1, 0, none⟩) lq1).trans hq1
  have dq2 : w1.cell? ⟨q2, 0, none⟩ = some (.int .i64 t0) := (HB1.out.cell (p := ⟨q2, 0, none⟩) lq2).trans hq2
  clear hb1 hown HA
  go_loopw [5, 11] (fun o i wr => ∃ (k : Nat) (w0 : World) (Ao : Option Addr) (no po : Nat), w0 = wr ∧ k ≤ K.length ∧ i = .int .i64 k ∧ o = .slice Ao no po ∧ no ≤ k ∧ Hid (wr.ownsRow w1.heap.size 3 1 (.slice Ao no po) no (vids ((K.take k).filter (P39 f0 t0)))) ∧ Below w1.heap.size w1 wr) (fun _ i _ => K.length - (intOf i).toNat)
  case atStart => exact ⟨0, _, none, 0, 0, rfl, Nat.zero_le _, rfl, rfl, Nat.le_refl _, World.ownsRow_nil _ _ _ _, Below.refl _ _⟩
  case round =>
    obtain ⟨k, wr, Ao, no, po, rfl, hk, rfl, rfl, hno, HX, hbx⟩ := hrel
    have hxz := hbx.size
    by_cases hlt : k < K.length
    · obtain ⟨g, cap, hv, _, hgl⟩ := HO.out.form (by omega)
      have hA : A = some ⟨g, 0, none⟩ := by injection hv
      subst hA
      have HF := Lib.hid (mark_at HO.out hgl hbx hlt)
      obtain ⟨m, Hm⟩ : ∃ m, Hid (K.getD k ⟨0, 0, 0, 0⟩ = m) := ⟨_, rfl⟩
      obtain ⟨e0, e1, e2, e3⟩ := HF.out
      rw [Hm.out] at e0 e1 e2 e3
      have Hnext := Lib.hid (take_filter K k hlt (P39 f0 t0) m Hm.out)
      have xq1 : wr.cell? ⟨q1, 0, none⟩ = some (.int .i64 f0) := (hbx.cell (p := ⟨q1, 0, none⟩) (show q1 < w1.heap.size from by omega)).trans dq1
      have xq2 : wr.cell? ⟨q2, 0, none⟩ = some (.int .i64 t0) := (hbx.cell (p := ⟨q2, 0, none⟩) (show q2 < w1.heap.size from by omega)).trans dq2
      clear hv HF
      have HBX := Lib.hid hbx
      have HCL : Hid (∀ v, Hid (P39 f0 t0 m = v) → ∀ X, Below w1.heap.size w1 X → Calls Try.prog 39 #[.agg #[.int .i64 m.id, .int .i64 m.fr, .int .i64 m.to, .int .i64 m.pr], .pointer (some ⟨q1, 0, none⟩), .pointer (some ⟨q2, 0, none⟩)] X fun e w' => e = .returned (.bool v) ∧ Below X.heap.size X w') := fun v hv X hb =>
        have hzz := hb.size
        cl39_v m f0 t0 v q1 q2 hv X ((hb.cell (p := ⟨q1, 0, none⟩) (show q1 < w1.heap.size from by omega)).trans dq1) ((hb.cell (p := ⟨q2, 0, none⟩) (show q2 < w1.heap.size from by omega)).trans dq2) (by omega) (by omega)
      by_cases hp : P39 f0 t0 m = true
      · have Hp : Hid (P39 f0 t0 m = true) := hp
        clear hp
        go_wp2_with (first
          | (go_at_call 39; (with_reducible refine (HCL.out true Hp _ (HBX.out.alloc hxz _)).mono ?_); rintro e w2 ⟨rfl, hb2⟩; have hcl2 := cells_of hb2; have hz2' : wr.heap.size < w2.heap.size := (by have hz := hb2.size; (try simp at hz); omega); have HB2 : Hid (Below wr.heap.size wr w2) := ((Below.refl _ _).alloc (Nat.le_refl _) _).trans (hb2.mono (by simp)); clear hb2)
          | (at_builtin; refine append_rds rfl (.tmp 18) (.tmp 21) 43 rfl w1.heap.size 3 i0 _ 1 8 Try.underlying43 hi0 hz0 hz1 hz2 rfl (by omega) (.slice Ao no po) no _ rfl ((own_below HX.out HB2.out fun k hk => (HX.out.lt k hk).2).alloc _) (w2.heap.size + 1) (some ⟨w2.heap.size, 0, none⟩) 1 1 [.int .i64 m.id] (by simp [go_sem]) (rds_one _ _ _ _ (by omega) (by simp [go_sem])) (by simp [Value.oneCell']) (by simp only [maxLen]; omega) (by omega) (by simp; omega) ?_))
        intro v3 w3 hown3 hg3 hat3
        obtain ⟨A3, p3, rfl, _, _⟩ := own_form hown3
        have hb3 : Below w1.heap.size w1 w3 := (((HBX.out.trans (HB2.out.mono hxz))).alloc (by omega) _).grown hg3 (by simp; omega) fun k hk => (HX.out.lt k hk).1
        have hN : vids ((K.take (k + 1)).filter (P39 f0 t0)) = vids ((K.take k).filter (P39 f0 t0)) ++ [.int .i64 m.id] := by rw [Hnext.out, if_pos Hp.out]; simp [vids]
        rw [← hN] at hown3
        have HO3 := Lib.hid hown3
        clear hown3 hg3 hat3 hN
        go_wp2
        go_roundw
        case rel => exact ⟨k + 1, _, A3, no + 1, p3, rfl, by omega, by go_num, rfl, by omega, HO3, hb3⟩
        case measure => simp [intOf]; omega
      · have Hp : Hid (P39 f0 t0 m = false) := by simpa [Hid] using hp
        clear hp
        go_wp2_with (go_at_call 39; (with_reducible refine (HCL.out false Hp _ (HBX.out.alloc hxz _)).mono ?_); rintro e w2 ⟨rfl, hb2⟩; have HB2 : Hid (Below wr.heap.size wr w2) := ((Below.refl _ _).alloc (Nat.le_refl _) _).trans (hb2.mono (by simp)); clear hb2)
        have hN : vids ((K.take (k + 1)).filter (P39 f0 t0)) = vids ((K.take k).filter (P39 f0 t0)) := by rw [Hnext.out, if_neg (by rw [Hp.out]; simp)]; simp
        go_roundw
        case rel => exact ⟨k + 1, _, Ao, no, po, rfl, by omega, by go_num, rfl, by omega, by rw [Hid, hN]; exact own_below HX.out HB2.out fun k hk => (HX.out.lt k hk).2, HBX.out.trans (HB2.out.mono hxz)⟩
        case measure => simp [intOf]; omega
    · have hkK : k = K.length := by omega
      subst hkK
      have HBX := Lib.hid hbx
      clear hbx
      go_wp2
      go_ret
      have ho := HX.out
      rw [List.take_length] at ho
      have hl := ho.1
      simp only [vids, List.length_map, Nat.mul_one] at hl
      subst hl
      exact ⟨_, rfl, own_lower ho hz, HB1.out.trans (HBX.out.mono hz)⟩

theorem stab_any (W : World) (s b : Nat) (t : TR) (at0 : Int) (h : SetIn W s b t) (hlen : t.list.length ≤ 1000) :
    Calls Try.prog 21 #[.pointer (some ⟨s, 0, none⟩), .int .i64 at0] W fun e w' => ∃ v, e = .returned v ∧ w'.ownsRow W.heap.size 3 1 v (t.list.filter (P38 at0)).length (vids (t.list.filter (P38 at0))) ∧ Below W.heap.size W w' := by
  have hb0 : Hid (Below W.heap.size W (W.alloc (.cells #[.int .i64 at0] 3 (0, 0)))) := (Below.refl _ _).alloc (Nat.le_refl _) _
  have HA := Lib.hid (those38_any (W.alloc (.cells #[.int .i64 at0] 3 (0, 0))) s b t at0 W.heap.size (h.below hb0.out h.lt) hlen (cell_of_one (heap_new _ _)) (by simp))
  clear h
  go_enter Try.func21, Try.ntmps21
  go_wp2_with (go_at_call 37; (with_reducible refine (HA.out).mono ?_); rintro e w1 ⟨v, rfl, hown, hb1⟩)
  go_ret
  exact ⟨v, rfl, own_lower hown (by simp), hb0.out.trans (hb1.mono (by simp))⟩
theorem within_any (W : World) (s b : Nat) (t : TR) (f0 t0 : Int) (h : SetIn W s b t) (hlen : t.list.length ≤ 1000) :
    Calls Try.prog 22 #[.pointer (some ⟨s, 0, none⟩), .int .i64 f0, .int .i64 t0] W fun e w' => ∃ v, e = .returned v ∧ w'.ownsRow W.heap.size 3 1 v (t.list.filter (P39 f0 t0)).length (vids (t.list.filter (P39 f0 t0))) ∧ Below W.heap.size W w' := by
  have hb0 : Hid (Below W.heap.size W ((W.alloc (.cells #[.int .i64 f0] 3 (0, 0))).alloc (.cells #[.int .i64 t0] 3 (0, 0)))) := ((Below.refl _ _).alloc (Nat.le_refl _) _).alloc (by simp) _
  have e1 : ((W.alloc (.cells #[.int .i64 f0] 3 (0, 0))).alloc (.cells #[.int .i64 t0] 3 (0, 0))).cell? ⟨W.heap.size, 0, none⟩ = some (.int .i64 f0) := by simp [go_sem]
  have e2 : ((W.alloc (.cells #[.int .i64 f0] 3 (0, 0))).alloc (.cells #[.int .i64 t0] 3 (0, 0))).cell? ⟨W.heap.size + 1, 0, none⟩ = some (.int .i64 t0) := by simp [go_sem]
  have HA := Lib.hid (those39_any ((W.alloc (.cells #[.int .i64 f0] 3 (0, 0))).alloc (.cells #[.int .i64 t0] 3 (0, 0))) s b t f0 t0 W.heap.size (W.heap.size + 1) (h.below hb0.out h.lt) hlen e1 e2 (by simp; omega) (by simp))
  clear h e1 e2
  go_enter Try.func22, Try.ntmps22
  go_wp2_with (go_at_call 37; (with_reducible refine (HA.out).mono ?_); rintro e w1 ⟨v, rfl, hown, hb1⟩)
  go_ret
  exact ⟨v, rfl, own_lower hown (by simp; omega), hb0.out.trans (hb1.mono (by simp; omega))⟩
end Go.Proofs.Ytkibhinpbpgkeaa
