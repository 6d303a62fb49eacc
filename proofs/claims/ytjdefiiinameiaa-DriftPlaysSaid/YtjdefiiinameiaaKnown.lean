/- The examples of the chapter: known answers true. -/
import Derived.Test.YtjdefiiinameiaaStep
namespace Go.Proofs.Ytjdefiiinameiaa
open Go.RowKit

/-- A row of numbers in a block. -/
def Row (w : World) (p : Nat) (l : List Int) : Prop := p < w.heap.size ∧ ∀ i : Nat, i < l.length → w.cell? ⟨p, i, none⟩ = some (.int .i64 (l.getD i 0))
theorem Row.below {w w' : World} {p : Nat} {l : List Int} (h : Row w p l) (hb : Below w.heap.size w w') : Row w' p l :=
  ⟨Nat.lt_of_lt_of_le h.1 hb.size, fun i hi => by rw [hb.cell h.1]; exact h.2 i hi⟩

set_option maxHeartbeats 400000 in
theorem shows_any {w : World} {b p q s n : Nat} {x y z : Int} (h : Clk w b x y z) (o : Okc x y z) (l1 l2 l3 : List Int) (h1 : Row w p l1) (h2 : Row w q l2) (h3 : Row w s l3)
    (n1 : l1.length = n) (n2 : l2.length = n) (n3 : l3.length = n) (hn : n ≤ 1000) (hall : ∀ i, i < n → shV x y z (l1.getD i 0) = l2.getD i 0 ∧ shE x y z (l1.getD i 0) = l3.getD i 0) :
    Calls Try.prog 25 #[.pointer (some ⟨b, 0, none⟩), .slice (some ⟨p, 0, none⟩) n n, .slice (some ⟨q, 0, none⟩) n n, .slice (some ⟨s, 0, none⟩) n n] w fun e w' => e = .returned (.bool true) ∧ Below w.heap.size w w' := by
  have N1 := Lib.hid n1
  have N2 := Lib.hid n2
  have N3 := Lib.hid n3
  have HA := Lib.hid hall
  clear n1 n2 n3 hall
  go_enter Try.func25, Try.ntmps25
  go_wp2_with fail
  go_loopw [9] (fun v wr => ∃ k : Nat, v = .int .i64 k ∧ k ≤ n ∧ Below w.heap.size w wr) (fun v _ => n - (intOf v).toNat)
  case atStart => exact ⟨0, rfl, by omega, Below.refl _ _⟩
  case round =>
    obtain ⟨k, rfl, hk, hb⟩ := hrel
    by_cases hlt : k < n
    · have c1 := (h1.below hb).2 k (by rw [N1.out]; exact hlt)
      have hA := HA.out k hlt
      have hs := show_any (h.below hb) o (l1.getD k 0)
      rw [hA.1, hA.2] at hs
      go_wp2_with fail
      refine hs.mono ?_
      rintro e w1 ⟨rfl, hb1⟩
      have hb2 := hb.trans (hb1.mono hb.size)
      have c2 := (h2.below hb2).2 k (by rw [N2.out]; exact hlt)
      have c3 := (h3.below hb2).2 k (by rw [N3.out]; exact hlt)
      go_wp2_with fail
      exact ⟨⟨k + 1, by go_num, by omega, hb2⟩, by simp [intOf]; omega⟩
    · go_wp2_with fail
      go_ret
      exact ⟨rfl, hb⟩

theorem row_new (w : World) (l : List Int) (t : TypeId) : Row (w.alloc (.cells (l.map (Value.int .i64)).toArray t)) w.heap.size l := by
  refine ⟨by simp, fun i hi => ?_⟩
  rw [World.cell?_alloc_new]
  simp [hi]
theorem rows3 (w : World) (l1 l2 l3 : List Int) (t1 t2 t3 : TypeId) (W : World)
    (hW : W = ((w.alloc (.cells (l1.map (Value.int .i64)).toArray t1)).alloc (.cells (l2.map (Value.int .i64)).toArray t2)).alloc (.cells (l3.map (Value.int .i64)).toArray t3)) :
    Row W w.heap.size l1 ∧ Row W (w.heap.size + 1) l2 ∧ Row W (w.heap.size + 2) l3 ∧ Below w.heap.size w W := by
  subst hW
  have a := row_new w l1 t1
  have b := row_new (w.alloc (.cells (l1.map (Value.int .i64)).toArray t1)) l2 t2
  have c := row_new ((w.alloc (.cells (l1.map (Value.int .i64)).toArray t1)).alloc (.cells (l2.map (Value.int .i64)).toArray t2)) l3 t3
  simp only [World.size_alloc] at b c
  refine ⟨(a.below ((Below.refl _ _).alloc (Nat.le_refl _) _)).below ((Below.refl _ _).alloc (Nat.le_refl _) _), b.below ((Below.refl _ _).alloc (Nat.le_refl _) _), c, ?_⟩
  exact (((Below.refl _ _).alloc (Nat.le_refl _) _).alloc (by simp) _).alloc (by simp; omega) _

theorem exc_k50 : ExcA 100 50 100000 50 100 1110 0 := by
  refine .inr (.inr (.inr (.inr ⟨by omega, by decide, by decide, by decide +kernel, rfl, by omega, by omega, by decide, fun s h1 h2 => ?_⟩)))
  rw [Bool.eq_false_iff]
  intro hc
  rcases ov_true hc with h | h <;> (unfold val at h; omega)
theorem exc_k49 : ExcA 100 50 100000 49 100 100 0 := .inr (.inr (.inl ⟨by omega, by decide, by decide, rfl, rfl⟩))
theorem exc_k60 : ExcA 100 50 100000 60 100 1210 0 := by
  refine .inr (.inr (.inr (.inr ⟨by omega, by decide, by decide, by decide +kernel, rfl, by omega, by omega, by decide, fun s h1 h2 => ?_⟩)))
  rw [Bool.eq_false_iff]
  intro hc
  rcases ov_true hc with h | h <;> (unfold val at h; omega)

set_option maxRecDepth 100000 in
set_option maxHeartbeats 1000000 in
theorem known_any (w : World) : Calls Try.prog 10 #[] w fun e w' => e = .returned (.bool true) ∧ Below w.heap.size w w' := by
  have o : Okc 100 50 100000 := ⟨by omega, by omega, by omega, by omega, by omega, by omega⟩
  go_enter Try.func10, Try.ntmps10
  go_wp2_with fail
  refine (new_ok o w).mono ?_
  rintro e w1 ⟨b, rfl, hbB, h1, hb1⟩
  go_wp2_with fail
  obtain ⟨r1, r2, r3, rb⟩ := rows3 w1 [100, 109, 110, 99] [50, 59, 61, 0] [0, 0, 0, 8] 3 3 23 _ rfl
  refine (shows_any (n := 4) (h1.below rb) o _ _ _ r1 r2 r3 rfl rfl rfl (by omega) (by decide +kernel)).mono ?_
  rintro e w2 ⟨rfl, hb2⟩
  have hbA : Below w.heap.size w w2 := hb1.trans ((rb.trans (hb2.mono rb.size)).mono hb1.size)
  have h2 := (h1.below rb).below hb2
  have hd := dev_any h2 o 110
  rw [show shE 100 50 100000 110 = 0 from by decide +kernel, show val 100 50 100000 110 - 110 = -49 from by decide +kernel, if_pos rfl] at hd
  clear r1 r2 r3 rb hb2 h1 hb1
  go_wp2_with fail
  refine hd.mono ?_
  rintro e w3 ⟨rfl, hb3⟩
  have h3 := h2.below hb3
  replace hbA := hbA.trans (hb3.mono hbA.size)
  clear hd h2 hb3
  go_wp2_with fail
  refine (exc_any h3 o 50 100).mono ?_
  rintro e w4 ⟨r, c, rfl, hA, hb4⟩
  obtain ⟨e1, e2⟩ := hA.unique exc_k50
  subst e1 e2
  have h4 := h3.below hb4
  replace hbA := hbA.trans (hb4.mono hbA.size)
  clear hA h3 hb4
  go_wp2_with fail
  refine (exc_any h4 o 49 100).mono ?_
  rintro e w5 ⟨r, c, rfl, hA, hb5⟩
  obtain ⟨e1, e2⟩ := hA.unique exc_k49
  subst e1 e2
  have h5 := h4.below hb5
  replace hbA := hbA.trans (hb5.mono hbA.size)
  clear hA h4 hb5
  go_wp2_with fail
  refine (exc_any h5 o 60 100).mono ?_
  rintro e w6 ⟨r, c, rfl, hA, hb6⟩
  obtain ⟨e1, e2⟩ := hA.unique exc_k60
  subst e1 e2
  have h6 := h5.below hb6
  replace hbA := hbA.trans (hb6.mono hbA.size)
  clear hA h5 hb6
  have hs := step_any h6 o 110 5
  unfold StepQ at hs
  rw [show stE 100 50 100000 110 5 = 0 from by decide +kernel, show stX 100 50 100000 110 5 = 110 from by decide +kernel, show stY 100 50 100000 110 5 = 66 from by decide +kernel] at hs
  go_wp2_with fail
  refine hs.mono ?_
  rintro e w7 ⟨rfl, h7, hu7⟩
  have hb7 : Below w.heap.size w6 w7 := hu7.below hbB hbA.size
  replace hbA := hbA.trans hb7
  have o' : Okc 110 66 100000 := ⟨by omega, by omega, by omega, by omega, by omega, by omega⟩
  clear hs h6 hu7 hb7 o
  go_wp2_with fail
  obtain ⟨r1, r2, r3, rb⟩ := rows3 w7 [110, 120] [66, 77] [0, 0] 3 3 23 _ rfl
  refine (shows_any (n := 2) (h7.below rb) o' _ _ _ r1 r2 r3 rfl rfl rfl (by omega) (by decide +kernel)).mono ?_
  rintro e w8 ⟨rfl, hb8⟩
  have h8 := (h7.below rb).below hb8
  replace hbA : Below w.heap.size w w8 := hbA.trans ((rb.trans (hb8.mono rb.size)).mono hbA.size)
  clear r1 r2 r3 rb hb8 h7
  have hs := set_any h8 o' 120 (-100000)
  unfold SetQ at hs
  rw [show srE 110 66 100000 120 (-100000) = 0 from by decide +kernel, show srX 110 66 100000 120 (-100000) = 120 from by decide +kernel, show srY 110 66 100000 120 (-100000) = 77 from by decide +kernel, show srZ 110 66 100000 120 (-100000) = -100000 from by decide +kernel] at hs
  go_wp2_with fail
  refine hs.mono ?_
  rintro e w9 ⟨rfl, h9, hu9⟩
  have hb9 : Below w.heap.size w8 w9 := hu9.below hbB hbA.size
  replace hbA := hbA.trans hb9
  have o9 : Okc 120 77 (-100000) := ⟨by omega, by omega, by omega, by omega, by omega, by omega⟩
  clear hs h8 hu9 hb9 o'
  go_wp2_with fail
  obtain ⟨r1, r2, r3, rb⟩ := rows3 w9 [130, 131] [86, 86] [0, 0] 3 3 23 _ rfl
  refine (shows_any (n := 2) (h9.below rb) o9 _ _ _ r1 r2 r3 rfl rfl rfl (by omega) (by decide +kernel)).mono ?_
  rintro e w10 ⟨rfl, hb10⟩
  replace hbA : Below w.heap.size w w10 := hbA.trans ((rb.trans (hb10.mono rb.size)).mono hbA.size)
  clear r1 r2 r3 rb hb10 h9
  go_wp2_with fail
  go_ret
  exact ⟨rfl, hbA⟩
end Go.Proofs.Ytjdefiiinameiaa
