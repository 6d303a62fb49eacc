/- Exceeds: the first time at which the deviation is greater than a skew. -/
import Derived.Test.YtjdefiiinameiaaShow
namespace Go.Proofs.Ytjdefiiinameiaa
open Go.RowKit

theorem dev_mono_up (x y z s u : Int) (hz : 0 ≤ z) (h : s ≤ u) : val x y z s - s ≤ val x y z u - u := by
  have h1 : (s - x) * z ≤ (u - x) * z := Int.mul_le_mul_of_nonneg_right (by omega) hz
  unfold val
  omega
theorem dev_mono_dn (x y z s u : Int) (hz : z ≤ 0) (h : s ≤ u) : val x y z u - u ≤ val x y z s - s := by
  have h1 : (u - x) * z ≤ (s - x) * z := Int.mul_le_mul_of_nonpos_right (by omega) hz
  unfold val
  omega
theorem ov_false {x y z k t : Int} (h : ovB x y z k t = false) : -k ≤ val x y z t - t ∧ val x y z t - t ≤ k := by
  simp only [ovB, Bool.or_eq_false_iff, decide_eq_false_iff_not] at h
  omega
theorem ov_true {x y z k t : Int} (h : ovB x y z k t = true) : k < val x y z t - t ∨ k < -(val x y z t - t) := by
  simpa only [ovB, Bool.or_eq_true, decide_eq_true_eq] using h
theorem ov_mk {x y z k t : Int} (h : k < val x y z t - t ∨ k < -(val x y z t - t)) : ovB x y z k t = true := by
  simpa only [ovB, Bool.or_eq_true, decide_eq_true_eq] using h
theorem ov_mono (x y z k t : Int) (h : ovB x y z k t = false) (s u : Int) (h1 : t ≤ s) (h2 : s ≤ u) (hs : ovB x y z k s = true) : ovB x y z k u = true := by
  have a := ov_false h
  have b := ov_true hs
  refine ov_mk ?_
  rcases Int.le_total 0 z with hz | hz
  · have c := dev_mono_up x y z t s hz h1
    have d := dev_mono_up x y z s u hz h2
    omega
  · have c := dev_mono_dn x y z t s hz h1
    have d := dev_mono_dn x y z s u hz h2
    omega

def FirstQ (x y z k lo hi : Int) (w : World) (e : Ending) (w' : World) : Prop :=
  ∃ r : Int, e = .returned (.tuple #[.int .i64 r, .bool true]) ∧ lo ≤ r ∧ r ≤ hi ∧ ovB x y z k r = true ∧ (∀ s, lo ≤ s → s < r → ovB x y z k s = false) ∧ Below w.heap.size w w'

set_option maxHeartbeats 400000 in
theorem first_yes {w : World} {b p q : Nat} {x y z k : Int} (h : Clk w b x y z) (o : Okc x y z) (hp : w.cell? ⟨p, 0, none⟩ = some (.pointer (some ⟨b, 0, none⟩)))
   (hq : w.cell? ⟨q, 0, none⟩ = some (.int .i64 k)) (hpl : p < w.heap.size) (hql : q < w.heap.size) (lo hi : Int) (t0 : 0 ≤ lo) (t1 : lo ≤ hi) (t2 : hi ≤ 1099511627776)
   (hm : ∀ s u, lo ≤ s → s ≤ u → u ≤ hi → ovB x y z k s = true → ovB x y z k u = true) (hhi : ovB x y z k hi = true) :
    Calls Try.prog 30 #[.int .i64 lo, .int .i64 hi, .func (.func 28) #[] #[.pointer (some ⟨p, 0, none⟩), .pointer (some ⟨q, 0, none⟩)]] w (FirstQ x y z k lo hi w) := by
  have HM := Lib.hid hm
  clear hm
  have HH := Lib.hid hhi
  clear hhi
  go_enter Try.func30, Try.ntmps30
  go_wp2_with fail
  refine (over_any h o hp hq hql hi (by omega) t2).mono ?_
  rintro e w1 ⟨rfl, hb⟩
  rw [HH.out]
  go_wp2_with fail
  go_loopw [0, 1] (fun v u wr => ∃ l m : Int, v = .int .i64 l ∧ u = .int .i64 m ∧ lo ≤ l ∧ l ≤ m ∧ m ≤ hi ∧ ovB x y z k m = true ∧ (∀ s, lo ≤ s → s < l → ovB x y z k s = false) ∧ Below w.heap.size w wr) (fun v u _ => (intOf u - intOf v).toNat)
  case atStart => exact ⟨lo, hi, rfl, rfl, by omega, t1, by omega, HH.out, fun s h1 h2 => by omega, hb⟩
  case round =>
    obtain ⟨l, m, rfl, rfl, k1, k2, k3, k4, k5, hbr⟩ := hrel
    have K4 := Lib.hid k4
    have K5 := Lib.hid k5
    clear k4 k5
    by_cases hlt : l < m
    · have hmid : l ≤ l + (m - l) / 2 ∧ l + (m - l) / 2 < m := by omega
      obtain ⟨m1, m2⟩ := hmid
      have hp' : wr.cell? ⟨p, 0, none⟩ = some (.pointer (some ⟨b, 0, none⟩)) := by rw [hbr.cell hpl]; exact hp
      have hq' : wr.cell? ⟨q, 0, none⟩ = some (.int .i64 k) := by rw [hbr.cell hql]; exact hq
      by_cases hov : ovB x y z k (l + (m - l) / 2) = true
      · have HO := Lib.hid hov
        clear hov
        go_wp2_with fail
        refine (over_any (h.below hbr) o hp' hq' (Nat.lt_of_lt_of_le hql hbr.size) _ (by omega) (by omega)).mono ?_
        rintro e w2 ⟨rfl, hb2⟩
        rw [HO.out]
        go_wp2_with fail
        go_roundw
        case rel => exact ⟨l, l + (m - l) / 2, rfl, rfl, k1, m1, by omega, HO.out, K5.out, hbr.trans (hb2.mono hbr.size)⟩
        case measure => simp [intOf]; omega
      · have HO := Lib.hid hov
        clear hov
        go_wp2_with fail
        refine (over_any (h.below hbr) o hp' hq' (Nat.lt_of_lt_of_le hql hbr.size) _ (by omega) (by omega)).mono ?_
        rintro e w2 ⟨rfl, hb2⟩
        rw [Bool.eq_false_iff.2 HO.out]
        go_wp2_with fail
        go_roundw
        case rel => exact ⟨l + (m - l) / 2 + 1, m, rfl, rfl, by omega, by omega, by omega, K4.out, fun s h1 h2 => by
          by_cases hs : s < l
          · exact K5.out s h1 hs
          · rw [Bool.eq_false_iff]; intro hc; exact HO.out (HM.out s _ (by omega) (by omega) (by omega) hc), hbr.trans (hb2.mono hbr.size)⟩
        case measure => simp [intOf]; omega
    · have hlm : l = m := by omega
      subst hlm
      go_wp2_with fail
      go_ret2
      exact ⟨l, rfl, k1, k3, K4.out, K5.out, hbr⟩


set_option maxHeartbeats 400000 in
theorem first_no {w : World} {b p q : Nat} {x y z k : Int} (h : Clk w b x y z) (o : Okc x y z) (hp : w.cell? ⟨p, 0, none⟩ = some (.pointer (some ⟨b, 0, none⟩)))
   (hq : w.cell? ⟨q, 0, none⟩ = some (.int .i64 k)) (hql : q < w.heap.size) (lo hi : Int) (t0 : 0 ≤ hi) (t2 : hi ≤ 1099511627776) (hhi : ovB x y z k hi = false) :
    Calls Try.prog 30 #[.int .i64 lo, .int .i64 hi, .func (.func 28) #[] #[.pointer (some ⟨p, 0, none⟩), .pointer (some ⟨q, 0, none⟩)]] w fun e w' => e = .returned (.tuple #[.int .i64 0, .bool false]) ∧ Below w.heap.size w w' := by
  have HH := Lib.hid hhi
  clear hhi
  go_enter Try.func30, Try.ntmps30
  go_wp2_with fail
  refine (over_any h o hp hq hql hi (by omega) t2).mono ?_
  rintro e w1 ⟨rfl, hb⟩
  rw [HH.out]
  go_wp2_with fail
  go_ret2
  exact ⟨rfl, hb⟩

/-- What Exceeds answers, one answer for each input. -/
def ExcA (x y z k t r c : Int) : Prop :=
  (k < 0 ∧ r = 0 ∧ c = 2) ∨ (0 ≤ k ∧ alE x t ≠ 0 ∧ r = 0 ∧ c = alE x t) ∨
  (0 ≤ k ∧ alE x t = 0 ∧ ovB x y z k t = true ∧ r = t ∧ c = 0) ∨
  (0 ≤ k ∧ alE x t = 0 ∧ ovB x y z k t = false ∧ ovB x y z k 1099511627776 = false ∧ r = 0 ∧ c = 9) ∨
  (0 ≤ k ∧ alE x t = 0 ∧ ovB x y z k t = false ∧ ovB x y z k 1099511627776 = true ∧ c = 0 ∧ t ≤ r ∧ r ≤ 1099511627776 ∧ ovB x y z k r = true ∧ ∀ s, t ≤ s → s < r → ovB x y z k s = false)
theorem ExcA.unique {x y z k t r c r' c' : Int} (h : ExcA x y z k t r c) (h' : ExcA x y z k t r' c') : r = r' ∧ c = c' := by
  rcases h with ⟨a, b, c⟩ | ⟨a, b, c, d⟩ | ⟨a, b, c, d, e⟩ | ⟨a, b, c, d, e, f⟩ | ⟨a, b, c, d, e, f, g, i, j⟩ <;>
  rcases h' with ⟨a', b', c'⟩ | ⟨a', b', c', d'⟩ | ⟨a', b', c', d', e'⟩ | ⟨a', b', c', d', e', f'⟩ | ⟨a', b', c', d', e', f', g', i', j'⟩ <;>
  first
  | omega
  | (exfalso; simp_all; done)
  | (refine ⟨?_, by omega⟩
     rcases Int.lt_trichotomy r r' with hl | hl | hl
     · have := j' r f hl; simp_all
     · exact hl
     · have := j r' f' hl; simp_all)

def ExcQ (x y z k t : Int) (w : World) (e : Ending) (w' : World) : Prop :=
  ∃ r c : Int, e = .returned (.tuple #[.int .i64 r, .int .i64 c]) ∧ ExcA x y z k t r c ∧ Below w.heap.size w w'

theorem al_cases (x t : Int) : (tmB t = false ∧ alE x t = 3) ∨ (tmB t = true ∧ t < x ∧ alE x t = 8) ∨ (tmB t = true ∧ ¬ t < x ∧ alE x t = 0) := by
  by_cases ht : tmB t = true
  · by_cases hx : t < x
    · right; left; simp [alE, ht, hx]
    · right; right; simp [alE, ht, hx]
  · left; have ht' : tmB t = false := by simpa using ht
    simp [alE, ht']

theorem exc_b0 (w : World) (b : Nat) (k : Int) : Below w.heap.size w ((w.alloc (.cells #[.pointer (some ⟨b, 0, none⟩)] 22)).alloc (.cells #[.int .i64 k] 3)) :=
  ((Below.refl _ _).alloc (Nat.le_refl _) _).alloc (by simp) _

theorem exc_cells {w w2 : World} {b : Nat} {k : Int} (hb2 : Below ((w.alloc (.cells #[.pointer (some ⟨b, 0, none⟩)] 22)).alloc (.cells #[.int .i64 k] 3)).heap.size ((w.alloc (.cells #[.pointer (some ⟨b, 0, none⟩)] 22)).alloc (.cells #[.int .i64 k] 3)) w2) :
    w2.cell? ⟨w.heap.size, 0, none⟩ = some (.pointer (some ⟨b, 0, none⟩)) ∧ w2.cell? ⟨w.heap.size + 1, 0, none⟩ = some (.int .i64 k) ∧ w.heap.size + 2 ≤ w2.heap.size := by
  refine ⟨?_, ?_, ?_⟩
  · rw [hb2.cell (by simp; omega)]; simp
  · rw [hb2.cell (by simp)]
    simp
  · have := hb2.size
    simpa using this

set_option maxHeartbeats 400000 in
theorem exc_arg {w : World} {b : Nat} {x y z : Int} (h : Clk w b x y z) (k t : Int) (hk : k < 0) :
    Calls Try.prog 11 #[.pointer (some ⟨b, 0, none⟩), .int .i64 t, .int .i64 k] w (ExcQ x y z k t w) := by
  have hb0 := exc_b0 w b k
  have h1 := h.below hb0
  have lt := h.lt
  go_enter Try.func11, Try.ntmps11
  go_wp2_with fail
  refine (none_clk h1).mono ?_
  rintro e w' ⟨rfl, rfl⟩
  go_wp2_with fail
  go_ret2
  exact ⟨0, 2, rfl, .inl ⟨hk, rfl, rfl⟩, hb0⟩

set_option maxHeartbeats 400000 in
theorem exc_al {w : World} {b : Nat} {x y z : Int} (h : Clk w b x y z) (k t : Int) (hk : 0 ≤ k) (c : Int) (hc : alE x t = c) (c0 : c = 3 ∨ c = 8) :
    Calls Try.prog 11 #[.pointer (some ⟨b, 0, none⟩), .int .i64 t, .int .i64 k] w (ExcQ x y z k t w) := by
  have hb0 := exc_b0 w b k
  have h1 := h.below hb0
  have lt := h.lt
  have ha := allowed_any h1 t
  rw [hc] at ha
  have hne : (c != 0) = true := by rcases c0 with rfl | rfl <;> decide
  have HC := Lib.hid hc
  have HC0 := Lib.hid c0
  clear hc c0
  go_enter Try.func11, Try.ntmps11
  go_wp2_with fail
  refine (none_clk h1).mono ?_
  rintro e w' ⟨rfl, rfl⟩
  go_wp2_with fail
  refine ha.mono ?_
  rintro e w2 ⟨rfl, hb2⟩
  go_wp2_with fail
  go_ret2
  exact ⟨0, c, rfl, .inr (.inl ⟨hk, by rw [HC.out]; rcases HC0.out with rfl | rfl <;> decide, rfl, HC.out.symm⟩), hb0.trans (hb2.mono hb0.size)⟩

set_option maxHeartbeats 400000 in
theorem exc_ok_now {w : World} {b : Nat} {x y z : Int} (h : Clk w b x y z) (o : Okc x y z) (k t : Int) (hk : 0 ≤ k) (hc : alE x t = 0) (t0 : 0 ≤ t) (t1 : t ≤ 1099511627776) (ho : ovB x y z k t = true) :
    Calls Try.prog 11 #[.pointer (some ⟨b, 0, none⟩), .int .i64 t, .int .i64 k] w (ExcQ x y z k t w) := by
  have hb0 := exc_b0 w b k
  have h1 := h.below hb0
  have lt := h.lt
  have ha := allowed_any h1 t
  rw [hc] at ha
  have HC := Lib.hid hc
  clear hc
  have HO := Lib.hid ho
  clear ho
  go_enter Try.func11, Try.ntmps11
  go_wp2_with fail
  refine (none_clk h1).mono ?_
  rintro e w' ⟨rfl, rfl⟩
  go_wp2_with fail
  refine ha.mono ?_
  rintro e w2 ⟨rfl, hb2⟩
  go_wp2_with fail
  obtain ⟨hp2, hq2, hz2⟩ := exc_cells hb2
  have h2 := h1.below hb2
  refine (over_any h2 o hp2 hq2 (by omega) t t0 t1).mono ?_
  rintro e w3 ⟨rfl, hb3⟩
  rw [HO.out]
  go_wp2_with fail
  go_ret2
  exact ⟨t, 0, rfl, .inr (.inr (.inl ⟨hk, HC.out, HO.out, rfl, rfl⟩)), hb0.trans ((hb2.mono hb0.size).trans (hb3.mono (Nat.le_trans hb0.size hb2.size)))⟩

set_option maxHeartbeats 400000 in
theorem exc_ok_no {w : World} {b : Nat} {x y z : Int} (h : Clk w b x y z) (o : Okc x y z) (k t : Int) (hk : 0 ≤ k) (hc : alE x t = 0) (t0 : 0 ≤ t) (t1 : t ≤ 1099511627776) (ho : ovB x y z k t = false) (hm : ovB x y z k 1099511627776 = false) :
    Calls Try.prog 11 #[.pointer (some ⟨b, 0, none⟩), .int .i64 t, .int .i64 k] w (ExcQ x y z k t w) := by
  have hb0 := exc_b0 w b k
  have h1 := h.below hb0
  have lt := h.lt
  have ha := allowed_any h1 t
  rw [hc] at ha
  have HC := Lib.hid hc
  clear hc
  have HO := Lib.hid ho
  clear ho
  have HM := Lib.hid hm
  clear hm
  go_enter Try.func11, Try.ntmps11
  go_wp2_with fail
  refine (none_clk h1).mono ?_
  rintro e w' ⟨rfl, rfl⟩
  go_wp2_with fail
  refine ha.mono ?_
  rintro e w2 ⟨rfl, hb2⟩
  go_wp2_with fail
  obtain ⟨hp2, hq2, hz2⟩ := exc_cells hb2
  have h2 := h1.below hb2
  refine (over_any h2 o hp2 hq2 (by omega) t t0 t1).mono ?_
  rintro e w3 ⟨rfl, hb3⟩
  rw [HO.out]
  have hs2 : w.heap.size ≤ w2.heap.size := by omega
  have hp3 : w3.cell? ⟨w.heap.size, 0, none⟩ = some (.pointer (some ⟨b, 0, none⟩)) := by rw [hb3.cell (by show w.heap.size < w2.heap.size; omega)]; exact hp2
  have hq3 : w3.cell? ⟨w.heap.size + 1, 0, none⟩ = some (.int .i64 k) := by rw [hb3.cell (by show w.heap.size + 1 < w2.heap.size; omega)]; exact hq2
  have hz3 := hb3.size
  have h3 := h2.below hb3
  have hbb : Below w.heap.size w w3 := hb0.trans ((hb2.mono hb0.size).trans (hb3.mono hs2))
  clear hp2 hq2
  go_wp2_with fail
  refine (first_no h3 o hp3 hq3 (by omega) t 1099511627776 (by omega) (by omega) HM.out).mono ?_
  rintro e w4 ⟨rfl, hb4⟩
  go_wp2_with fail
  go_ret2
  exact ⟨0, 9, rfl, .inr (.inr (.inr (.inl ⟨hk, HC.out, HO.out, HM.out, rfl, rfl⟩))), hbb.trans (hb4.mono (Nat.le_trans hs2 hz3))⟩

set_option maxHeartbeats 400000 in
theorem exc_ok_yes {w : World} {b : Nat} {x y z : Int} (h : Clk w b x y z) (o : Okc x y z) (k t : Int) (hk : 0 ≤ k) (hc : alE x t = 0) (t0 : 0 ≤ t) (t1 : t ≤ 1099511627776) (ho : ovB x y z k t = false) (hm : ovB x y z k 1099511627776 = true) :
    Calls Try.prog 11 #[.pointer (some ⟨b, 0, none⟩), .int .i64 t, .int .i64 k] w (ExcQ x y z k t w) := by
  have hb0 := exc_b0 w b k
  have h1 := h.below hb0
  have lt := h.lt
  have ha := allowed_any h1 t
  rw [hc] at ha
  have HC := Lib.hid hc
  clear hc
  have HO := Lib.hid ho
  clear ho
  have HM := Lib.hid hm
  clear hm
  go_enter Try.func11, Try.ntmps11
  go_wp2_with fail
  refine (none_clk h1).mono ?_
  rintro e w' ⟨rfl, rfl⟩
  go_wp2_with fail
  refine ha.mono ?_
  rintro e w2 ⟨rfl, hb2⟩
  go_wp2_with fail
  obtain ⟨hp2, hq2, hz2⟩ := exc_cells hb2
  have h2 := h1.below hb2
  refine (over_any h2 o hp2 hq2 (by omega) t t0 t1).mono ?_
  rintro e w3 ⟨rfl, hb3⟩
  rw [HO.out]
  have hs2 : w.heap.size ≤ w2.heap.size := by omega
  have hp3 : w3.cell? ⟨w.heap.size, 0, none⟩ = some (.pointer (some ⟨b, 0, none⟩)) := by rw [hb3.cell (by show w.heap.size < w2.heap.size; omega)]; exact hp2
  have hq3 : w3.cell? ⟨w.heap.size + 1, 0, none⟩ = some (.int .i64 k) := by rw [hb3.cell (by show w.heap.size + 1 < w2.heap.size; omega)]; exact hq2
  have hz3 := hb3.size
  have h3 := h2.below hb3
  have hbb : Below w.heap.size w w3 := hb0.trans ((hb2.mono hb0.size).trans (hb3.mono hs2))
  clear hp2 hq2
  go_wp2_with fail
  refine (first_yes h3 o hp3 hq3 (by omega) (by omega) t 1099511627776 t0 t1 (by omega) (fun s u h1 h2 _ h3 => ov_mono x y z k t HO.out s u h1 h2 h3) HM.out).mono ?_
  rintro e w4 ⟨r, rfl, q1, q2, q3, q4, hb4⟩
  have Q3 := Lib.hid q3
  have Q4 := Lib.hid q4
  clear q3 q4
  go_wp2_with fail
  go_ret2
  exact ⟨r, 0, rfl, .inr (.inr (.inr (.inr ⟨hk, HC.out, HO.out, HM.out, rfl, q1, q2, Q3.out, Q4.out⟩))), hbb.trans (hb4.mono (Nat.le_trans hs2 hz3))⟩

theorem exc_any {w : World} {b : Nat} {x y z : Int} (h : Clk w b x y z) (o : Okc x y z) (k t : Int) :
    Calls Try.prog 11 #[.pointer (some ⟨b, 0, none⟩), .int .i64 t, .int .i64 k] w (ExcQ x y z k t w) := by
  by_cases hk : k < 0
  · exact exc_arg h k t hk
  · rcases al_cases x t with ⟨c1, c2⟩ | ⟨c1, c2, c3⟩ | ⟨c1, c2, c3⟩
    · exact exc_al h k t (by omega) 3 c2 (.inl rfl)
    · exact exc_al h k t (by omega) 8 c3 (.inr rfl)
    · have ht := tmB_true c1
      by_cases ho : ovB x y z k t = true
      · exact exc_ok_now h o k t (by omega) c3 ht.1 ht.2 ho
      · rw [Bool.not_eq_true] at ho
        by_cases hm : ovB x y z k 1099511627776 = true
        · exact exc_ok_yes h o k t (by omega) c3 ht.1 ht.2 ho hm
        · rw [Bool.not_eq_true] at hm
          exact exc_ok_no h o k t (by omega) c3 ht.1 ht.2 ho hm
end Go.Proofs.Ytjdefiiinameiaa
