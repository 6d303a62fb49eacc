/- The reference's Exceeds: it finds the same first time. -/
import Derived.Test.YtjdefiiinameiaaRef
namespace Go.Proofs.Ytjdefiiinameiaa
open Go.RowKit

/-- The three cells of a clock of the reference that was laid first. -/
theorem box_cells {w w2 : World} {x y z : Int} (hb : Below (w.alloc (.cells #[.int .i64 x, .int .i64 y, .int .i64 z] 27)).heap.size (w.alloc (.cells #[.int .i64 x, .int .i64 y, .int .i64 z] 27)) w2) :
    w2.cell? ⟨w.heap.size, 0, none⟩ = some (.int .i64 x) ∧ w2.cell? ⟨w.heap.size, 1, none⟩ = some (.int .i64 y) ∧ w2.cell? ⟨w.heap.size, 2, none⟩ = some (.int .i64 z) := by
  refine ⟨?_, ?_, ?_⟩
  · rw [hb.cell (by simp)]; simp
  · rw [hb.cell (by simp)]; simp
  · rw [hb.cell (by simp)]; simp

/-- From a time on, a number of seconds later, the deviation is too great, or time has ended. -/
def blk (x y z k c d : Int) : Prop := 1099511627776 < c + d ∨ ovB x y z k (c + d) = true
theorem blk_half {x y z k c j : Int} (hc : ovB x y z k c = false) (h0 : 0 < j) (h : blk x y z k c j) : blk x y z k c (2 * (j / 2) + 1) := by
  rcases h with h | h
  · left; omega
  · right; exact ov_mono x y z k c hc (c + j) _ (by omega) (by omega) h

set_option maxHeartbeats 1000000 in
theorem rexc_yes {x y z : Int} (o : Okc x y z) (k t : Int) (hk : 0 ≤ k) (htx : ¬ t < x) (hal : alE x t = 0) (t0 : 0 ≤ t) (t1 : t ≤ 1099511627776) (ho : ovB x y z k t = false) (hm : ovB x y z k 1099511627776 = true) (w : World) :
    Calls Try.prog 12 #[.agg #[.int .i64 x, .int .i64 y, .int .i64 z], .int .i64 t, .int .i64 k] w (ExcQ x y z k t w) := by
  have hb0 : Below w.heap.size w (w.alloc (.cells #[.int .i64 x, .int .i64 y, .int .i64 z] 27)) := (Below.refl _ _).alloc (Nat.le_refl _) _
  have HT := Lib.hid (tmB_mk ⟨t0, t1⟩)
  have HO := Lib.hid ho
  have HM := Lib.hid hm
  have HA := Lib.hid hal
  clear ho hm hal
  go_enter Try.func12, Try.ntmps12
  go_wp2_with fail
  refine (rtime_any _ _).mono ?_
  rintro e w1 ⟨rfl, rfl⟩
  rw [HT.out]
  go_wp2_with fail
  refine (rover_any o t k t0 t1 _).mono ?_
  rintro e w2 ⟨rfl, hb2⟩
  rw [HO.out]
  obtain ⟨k0, k1, k2⟩ := box_cells hb2
  go_wp2_with fail
  refine (rover_any o 1099511627776 k (by omega) (by omega) _).mono ?_
  rintro e w3 ⟨rfl, hb3⟩
  rw [HM.out]
  have hb4 := hb2.trans (hb3.mono hb2.size)
  clear k0 k1 k2 hb2 hb3
  go_wp2_with fail
  go_loopw [8, 9] (fun v u wr => ∃ c j : Int, v = .int .i64 c ∧ u = .int .i64 j ∧ t ≤ c ∧ c ≤ 1099511627776 ∧ 0 ≤ j ∧ j ≤ 1099511627776 ∧ ovB x y z k c = false ∧ blk x y z k c (2 * j + 1) ∧ Below (w.alloc (.cells #[.int .i64 x, .int .i64 y, .int .i64 z] 27)).heap.size (w.alloc (.cells #[.int .i64 x, .int .i64 y, .int .i64 z] 27)) wr) (fun _ u _ => (intOf u).toNat)
  case atStart => exact ⟨t, 1099511627776, rfl, rfl, by omega, t1, by omega, by omega, HO.out, .inl (by omega), hb4⟩
  case round =>
    obtain ⟨c, j, rfl, rfl, c1, c2, j1, j2, hc, hbl, hbr⟩ := hrel
    have HC := Lib.hid hc
    have HB := Lib.hid hbl
    clear hc hbl hb4
    by_cases hj : 0 < j
    · obtain ⟨wo, rfl⟩ : ∃ wo : World, wo = wr := ⟨_, rfl⟩
      go_wp2_with fail
      go_loopw [8] (fun v wr => ∃ c' : Int, v = .int .i64 c' ∧ t ≤ c' ∧ c' ≤ 1099511627776 ∧ ovB x y z k c' = false ∧ Below (w.alloc (.cells #[.int .i64 x, .int .i64 y, .int .i64 z] 27)).heap.size (w.alloc (.cells #[.int .i64 x, .int .i64 y, .int .i64 z] 27)) wr) (fun v _ => (1099511627776 - intOf v).toNat)
      case atStart => exact ⟨c, rfl, c1, c2, HC.out, hbr⟩
      case round =>
        obtain ⟨c', rfl, d1, d2, hc', hbr'⟩ := hrel
        have HC' := Lib.hid hc'
        clear hc' HC HB c1 c2 hbr
        by_cases hle : c' + j ≤ 1099511627776
        · obtain ⟨k0, k1, k2⟩ := box_cells hbr'
          by_cases hov : ovB x y z k (c' + j) = true
          · have HV := Lib.hid hov
            clear hov
            go_wp2_with fail
            refine (rover_any o (c' + j) k (by omega) (by omega) _).mono ?_
            rintro e w5 ⟨rfl, hb5⟩
            rw [HV.out]
            go_wp2_with fail
            go_roundw
            case rel => exact ⟨c', j / 2, rfl, rfl, d1, d2, by omega, by omega, HC'.out, blk_half HC'.out hj (.inr HV.out), hbr'.trans (hb5.mono hbr'.size)⟩
            case measure => simp [intOf]; omega
          · have HV := Lib.hid (Bool.eq_false_iff.2 hov)
            clear hov
            go_wp2_with fail
            refine (rover_any o (c' + j) k (by omega) (by omega) _).mono ?_
            rintro e w5 ⟨rfl, hb5⟩
            rw [HV.out]
            go_wp2_with fail
            go_roundw
            case rel => exact ⟨c' + j, rfl, by omega, hle, HV.out, hbr'.trans (hb5.mono hbr'.size)⟩
            case measure => simp [intOf]; omega
        · go_wp2_with fail
          go_roundw
          case rel => exact ⟨c', j / 2, rfl, rfl, d1, d2, by omega, by omega, HC'.out, blk_half HC'.out hj (.inl (by omega)), hbr'⟩
          case measure => simp [intOf]; omega
    · have hj0 : j = 0 := by omega
      subst hj0
      have hlt : c < 1099511627776 := by
        rcases Int.lt_or_le c 1099511627776 with h | h
        · exact h
        · exfalso
          have he : c = 1099511627776 := by omega
          rw [he] at HC
          have := HC.out
          rw [HM.out] at this
          exact Bool.noConfusion this
      have hov : ovB x y z k (c + 1) = true := by
        rcases HB.out with h | h
        · omega
        · simpa using h
      have HV := Lib.hid hov
      clear hov
      go_wp2_with fail
      go_ret2
      exact ⟨c + 1, 0, rfl, .inr (.inr (.inr (.inr ⟨hk, HA.out, HO.out, HM.out, rfl, by omega, by omega, HV.out, fun s h1 h2 => by
        rw [Bool.eq_false_iff]
        intro hs
        have h3 := ov_mono x y z k t HO.out s c h1 (by omega) hs
        rw [HC.out] at h3
        exact Bool.noConfusion h3⟩))), hb0.trans (hbr.mono hb0.size)⟩

set_option maxHeartbeats 400000 in
theorem rexc_arg {x y z : Int} (k t : Int) (hk : k < 0) (w : World) :
    Calls Try.prog 12 #[.agg #[.int .i64 x, .int .i64 y, .int .i64 z], .int .i64 t, .int .i64 k] w (ExcQ x y z k t w) := by
  have hb0 : Below w.heap.size w (w.alloc (.cells #[.int .i64 x, .int .i64 y, .int .i64 z] 27)) := (Below.refl _ _).alloc (Nat.le_refl _) _
  go_enter Try.func12, Try.ntmps12
  go_wp2_with fail
  go_ret2
  exact ⟨0, 2, rfl, .inl ⟨hk, rfl, rfl⟩, hb0⟩

set_option maxHeartbeats 400000 in
theorem rexc_range {x y z : Int} (k t : Int) (hk : 0 ≤ k) (ht : tmB t = false) (hal : alE x t = 3) (w : World) :
    Calls Try.prog 12 #[.agg #[.int .i64 x, .int .i64 y, .int .i64 z], .int .i64 t, .int .i64 k] w (ExcQ x y z k t w) := by
  have hb0 : Below w.heap.size w (w.alloc (.cells #[.int .i64 x, .int .i64 y, .int .i64 z] 27)) := (Below.refl _ _).alloc (Nat.le_refl _) _
  have HT := Lib.hid ht
  have HA := Lib.hid hal
  clear ht hal
  go_enter Try.func12, Try.ntmps12
  go_wp2_with fail
  refine (rtime_any _ _).mono ?_
  rintro e w1 ⟨rfl, rfl⟩
  rw [HT.out]
  go_wp2_with fail
  go_ret2
  exact ⟨0, 3, rfl, .inr (.inl ⟨hk, by rw [HA.out]; decide, rfl, HA.out.symm⟩), hb0⟩

set_option maxHeartbeats 400000 in
theorem rexc_state {x y z : Int} (k t : Int) (hk : 0 ≤ k) (ht : tmB t = true) (htx : t < x) (hal : alE x t = 8) (w : World) :
    Calls Try.prog 12 #[.agg #[.int .i64 x, .int .i64 y, .int .i64 z], .int .i64 t, .int .i64 k] w (ExcQ x y z k t w) := by
  have hb0 : Below w.heap.size w (w.alloc (.cells #[.int .i64 x, .int .i64 y, .int .i64 z] 27)) := (Below.refl _ _).alloc (Nat.le_refl _) _
  have HT := Lib.hid ht
  have HA := Lib.hid hal
  clear ht hal
  go_enter Try.func12, Try.ntmps12
  go_wp2_with fail
  refine (rtime_any _ _).mono ?_
  rintro e w1 ⟨rfl, rfl⟩
  rw [HT.out]
  go_wp2_with fail
  go_ret2
  exact ⟨0, 8, rfl, .inr (.inl ⟨hk, by rw [HA.out]; decide, rfl, HA.out.symm⟩), hb0⟩

set_option maxHeartbeats 400000 in
theorem rexc_now {x y z : Int} (o : Okc x y z) (k t : Int) (hk : 0 ≤ k) (htx : ¬ t < x) (hal : alE x t = 0) (t0 : 0 ≤ t) (t1 : t ≤ 1099511627776) (ho : ovB x y z k t = true) (w : World) :
    Calls Try.prog 12 #[.agg #[.int .i64 x, .int .i64 y, .int .i64 z], .int .i64 t, .int .i64 k] w (ExcQ x y z k t w) := by
  have hb0 : Below w.heap.size w (w.alloc (.cells #[.int .i64 x, .int .i64 y, .int .i64 z] 27)) := (Below.refl _ _).alloc (Nat.le_refl _) _
  have HT := Lib.hid (tmB_mk ⟨t0, t1⟩)
  have HA := Lib.hid hal
  have HO := Lib.hid ho
  clear ho hal
  go_enter Try.func12, Try.ntmps12
  go_wp2_with fail
  refine (rtime_any _ _).mono ?_
  rintro e w1 ⟨rfl, rfl⟩
  rw [HT.out]
  go_wp2_with fail
  refine (rover_any o t k t0 t1 _).mono ?_
  rintro e w2 ⟨rfl, hb2⟩
  rw [HO.out]
  go_wp2_with fail
  go_ret2
  exact ⟨t, 0, rfl, .inr (.inr (.inl ⟨hk, HA.out, HO.out, rfl, rfl⟩)), hb0.trans (hb2.mono hb0.size)⟩

set_option maxHeartbeats 400000 in
theorem rexc_no {x y z : Int} (o : Okc x y z) (k t : Int) (hk : 0 ≤ k) (htx : ¬ t < x) (hal : alE x t = 0) (t0 : 0 ≤ t) (t1 : t ≤ 1099511627776) (ho : ovB x y z k t = false) (hm : ovB x y z k 1099511627776 = false) (w : World) :
    Calls Try.prog 12 #[.agg #[.int .i64 x, .int .i64 y, .int .i64 z], .int .i64 t, .int .i64 k] w (ExcQ x y z k t w) := by
  have hb0 : Below w.heap.size w (w.alloc (.cells #[.int .i64 x, .int .i64 y, .int .i64 z] 27)) := (Below.refl _ _).alloc (Nat.le_refl _) _
  have HT := Lib.hid (tmB_mk ⟨t0, t1⟩)
  have HA := Lib.hid hal
  have HO := Lib.hid ho
  have HM := Lib.hid hm
  clear ho hal hm
  go_enter Try.func12, Try.ntmps12
  go_wp2_with fail
  refine (rtime_any _ _).mono ?_
  rintro e w1 ⟨rfl, rfl⟩
  rw [HT.out]
  go_wp2_with fail
  refine (rover_any o t k t0 t1 _).mono ?_
  rintro e w2 ⟨rfl, hb2⟩
  rw [HO.out]
  obtain ⟨k0, k1, k2⟩ := box_cells hb2
  go_wp2_with fail
  refine (rover_any o 1099511627776 k (by omega) (by omega) _).mono ?_
  rintro e w3 ⟨rfl, hb3⟩
  rw [HM.out]
  have hb4 := hb2.trans (hb3.mono hb2.size)
  clear k0 k1 k2
  go_wp2_with fail
  go_ret2
  exact ⟨0, 9, rfl, .inr (.inr (.inr (.inl ⟨hk, HA.out, HO.out, HM.out, rfl, rfl⟩))), hb0.trans (hb4.mono hb0.size)⟩

theorem rexc_any {x y z : Int} (o : Okc x y z) (k t : Int) (w : World) :
    Calls Try.prog 12 #[.agg #[.int .i64 x, .int .i64 y, .int .i64 z], .int .i64 t, .int .i64 k] w (ExcQ x y z k t w) := by
  by_cases hk : k < 0
  · exact rexc_arg k t hk w
  · rcases al_cases x t with ⟨c1, c2⟩ | ⟨c1, c2, c3⟩ | ⟨c1, c2, c3⟩
    · exact rexc_range k t (by omega) c1 c2 w
    · exact rexc_state k t (by omega) c1 c2 c3 w
    · have ht := tmB_true c1
      by_cases ho : ovB x y z k t = true
      · exact rexc_now o k t (by omega) c2 c3 ht.1 ht.2 ho w
      · rw [Bool.not_eq_true] at ho
        by_cases hm : ovB x y z k 1099511627776 = true
        · exact rexc_yes o k t (by omega) c2 c3 ht.1 ht.2 ho hm w
        · rw [Bool.not_eq_true] at hm
          exact rexc_no o k t (by omega) c2 c3 ht.1 ht.2 ho hm w
end Go.Proofs.Ytjdefiiinameiaa
