/- DriftPlays returns true for every input: which clocks there are, the results of any calls, and what the clock shows after each. -/
import Derived.Test.YtjdefiiinameiaaDo
import Derived.Test.YtjdefiiinameiaaLawKit
import Derived.Deep.Slices
import Derived.Deep.Strs
namespace Go.Proofs.Ytjdefiiinameiaa.driftPlays
open Go.ChangeShapes Go.WideShapes Go.ChangeAt Go.RowKit
set_option linter.unusedVariables false

/-- A slice of acts: each element is three numbers. -/
def Acts (w : World) (a : Option Addr) (n : Nat) : Prop :=
  n = 0 ∨ ∃ b off, a = some ⟨b, off, none⟩ ∧ b < w.heap.size ∧ ∀ i : Nat, i < n → ∃ x t d : Int, w.cell? ⟨b, off + i * 3, none⟩ = some (.int .i64 x) ∧ w.cell? ⟨b, off + i * 3 + 1, none⟩ = some (.int .i64 t) ∧ w.cell? ⟨b, off + i * 3 + 2, none⟩ = some (.int .i64 d)

theorem walk_many (x y z : Int) (a : Option Addr) (n cap : Nat) (hn : 30 < n) (w : World) :
    Calls Try.prog 4 #[.int .i64 x, .int .i64 y, .int .i64 z, .slice a n cap] w fun e w' => e = .returned (.bool true) ∧ Below w.heap.size w w' := by
  go_enter Try.func4, Try.ntmps4
  go_wp2_with fail
  refine (known_any _).mono ?_
  rintro e w1 ⟨rfl, hb1⟩
  go_wp2_with fail
  go_ret
  exact ⟨rfl, hb1⟩

set_option maxRecDepth 100000 in
set_option maxHeartbeats 1000000 in
theorem walk_no (x y z : Int) (a : Option Addr) (n cap : Nat) (hn : ¬ 30 < n) (ho : okB x y z = false) (w : World) :
    Calls Try.prog 4 #[.int .i64 x, .int .i64 y, .int .i64 z, .slice a n cap] w fun e w' => e = .returned (.bool true) ∧ Below w.heap.size w w' := by
  by_cases hp : (0 : Nat) < n
  all_goals
    go_enter Try.func4, Try.ntmps4
    go_wp2_with fail
    refine (new_no ho w).mono ?_
    rintro e w1 ⟨rfl, hb1⟩
    go_wp2_with fail
    refine (rnew_no ho w1).mono ?_
    rintro e w2 ⟨rfl, hb2⟩
    have hb3 := (hb1.trans (hb2.mono hb1.size)).alloc (Nat.le_trans hb1.size hb2.size) (.cells #[.int .i64 0, .int .i64 0, .int .i64 0] 27)
    clear hb1 hb2
    go_wp2_with fail
    refine wp_loop_rounds 1 ?_
    rw [rounds_succ]
    go_wp2_with fail
    refine (known_any _).mono ?_
    rintro e w4 ⟨rfl, hb4⟩
    go_wp2_with fail
    go_ret
    exact ⟨rfl, hb3.trans (hb4.mono hb3.size)⟩

/-- The state of the play: the clock in block c, the reference's in block R. -/
structure PlS (w : World) (R c : Nat) (x y z : Int) (wr : World) : Prop where
  hb : Below w.heap.size w wr
  clk : Clk wr c x y z
  ok : Okc x y z
  r0 : wr.cell? ⟨R, 0, none⟩ = some (.int .i64 x)
  r1 : wr.cell? ⟨R, 1, none⟩ = some (.int .i64 y)
  r2 : wr.cell? ⟨R, 2, none⟩ = some (.int .i64 z)
  f0 : wr.frozen? ⟨R, 0, none⟩ = false
  f1 : wr.frozen? ⟨R, 1, none⟩ = false
  f2 : wr.frozen? ⟨R, 2, none⟩ = false
  hR : w.heap.size ≤ R
  hRlt : R < wr.heap.size
  hne : c ≠ R
  hc : w.heap.size ≤ c
/-- Behind the call. -/
def PlB (wr : World) (c c' : Nat) (x y z : Int) (w' : World) : Prop := Okc x y z ∧ Clk w' c' x y z ∧ But c wr w' ∧ (c' = c ∨ wr.heap.size ≤ c')
/-- Behind the store. -/
def PlE (wr : World) (R c c' : Nat) (x y z : Int) (w' : World) : Prop := ∃ w1, PlB wr c c' x y z w1 ∧ w' = set3 w1 R x y z
theorem plB_of {wr : World} {c c' : Nat} {x y z : Int} {e : Ending} {w' : World} (h : DoQ c wr.drew c' x y z e w') : PlB wr c c' x y z w' := by
  obtain ⟨_, h1, h2, h3, h4⟩ := h
  exact ⟨h1, h2, ⟨h3.os, h3.tape, h3.output, h3.size, h3.block⟩, h4⟩
theorem plB_cells {w wr w' : World} {R c c' : Nat} {x y z x' y' z' : Int} (hS : PlS w R c x y z wr) (hB : PlB wr c c' x' y' z' w') :
    (w'.cell? ⟨R, 0, none⟩ = some (.int .i64 x) ∧ w'.cell? ⟨R, 1, none⟩ = some (.int .i64 y) ∧ w'.cell? ⟨R, 2, none⟩ = some (.int .i64 z)) ∧ (w'.frozen? ⟨R, 0, none⟩ = false ∧ w'.frozen? ⟨R, 1, none⟩ = false ∧ w'.frozen? ⟨R, 2, none⟩ = false) := by
  obtain ⟨_, _, hu, _⟩ := hB
  have hc : ∀ o, w'.cell? ⟨R, o, none⟩ = wr.cell? ⟨R, o, none⟩ := fun o => World.cell?_of_block (w := wr) (hu.block R hS.hRlt (Ne.symm hS.hne))
  have hf : ∀ o, w'.frozen? ⟨R, o, none⟩ = wr.frozen? ⟨R, o, none⟩ := fun o => World.frozen?_of_block (w := wr) (hu.block R hS.hRlt (Ne.symm hS.hne))
  exact ⟨⟨by rw [hc]; exact hS.r0, by rw [hc]; exact hS.r1, by rw [hc]; exact hS.r2⟩, ⟨by rw [hf]; exact hS.f0, by rw [hf]; exact hS.f1, by rw [hf]; exact hS.f2⟩⟩
theorem plS_next {w wr w' : World} {R c c' : Nat} {x y z x' y' z' : Int} (hS : PlS w R c x y z wr) (hE : PlE wr R c c' x' y' z' w') : PlS w R c' x' y' z' w' := by
  obtain ⟨w1, hB, rfl⟩ := hE
  have hcl := plB_cells hS hB
  obtain ⟨hok, hclk, hu, hcc⟩ := hB
  obtain ⟨⟨q0, q1, q2⟩, ⟨g0, g1, g2⟩⟩ := hcl
  have hs := set3_but w1 R x' y' z'
  have hR := hS.hR
  have hRl := hS.hRlt
  have hc := hS.hc
  have hz := hu.size
  have hne' : c' ≠ R := by rcases hcc with h | h <;> have := hS.hne <;> omega
  refine ⟨?_, hs.clk hclk hne', hok, ?_, ?_, ?_, ?_, ?_, ?_, hR, Nat.lt_of_lt_of_le hRl (Nat.le_trans hz hs.size), hne', ?_⟩
  · have h1 := hS.hb.trans (hu.below hc hS.hb.size)
    exact h1.trans (hs.below hR h1.size)
  · simp [set3, go_sem, q0]
  · simp [set3, go_sem, q1]
  · simp [set3, go_sem, q2]
  · simp [set3, go_sem, g0]
  · simp [set3, go_sem, g1]
  · simp [set3, go_sem, g2]
  · rcases hcc with h | h
    · omega
    · have := hS.hb.size; omega
theorem acts_at {w : World} {b off n : Nat} (h : Acts w (some ⟨b, off, none⟩) n) {wr : World} (hb : Below w.heap.size w wr) (k : Nat) (hk : k < n) :
    ∃ x t d : Int, wr.cell? ⟨b, off + k * 3, none⟩ = some (.int .i64 x) ∧ wr.cell? ⟨b, off + k * 3 + 1, none⟩ = some (.int .i64 t) ∧ wr.cell? ⟨b, off + k * 3 + 2, none⟩ = some (.int .i64 d) := by
  rcases h with h | ⟨b', off', h1, h2, h3⟩
  · omega
  · cases h1
    obtain ⟨x, t, d, e0, e1, e2⟩ := h3 k hk
    exact ⟨x, t, d, by rw [hb.cell h2]; exact e0, by rw [hb.cell h2]; exact e1, by rw [hb.cell h2]; exact e2⟩

set_option maxRecDepth 100000 in
set_option maxHeartbeats 2000000 in
theorem walk_ok (x y z : Int) (a : Option Addr) (n cap : Nat) (hn : ¬ 30 < n) (o : Okc x y z) (w : World) (hact : Acts w a n) :
    Calls Try.prog 4 #[.int .i64 x, .int .i64 y, .int .i64 z, .slice a n cap] w fun e w' => e = .returned (.bool true) ∧ Below w.heap.size w w' := by
  go_enter Try.func4, Try.ntmps4
  go_wp2_with fail
  refine (new_ok o w).mono ?_
  rintro e w1 ⟨b, rfl, hbB, h1, hb1⟩
  go_wp2_with fail
  refine (rnew_ok o w1).mono ?_
  rintro e w2 ⟨rfl, hb2⟩
  have hbx := bx_below w2 x y z
  have h3 := (h1.below hb2).below hbx
  have hb3 := (hb1.trans (hb2.mono hb1.size)).trans (hbx.mono (Nat.le_trans hb1.size hb2.size))
  have hlt2 := (h1.below hb2).lt
  have hz2 := Nat.le_trans hb1.size hb2.size
  go_wp2_with fail
  refine (agrees_any h3 o x).mono ?_
  rintro e w3 ⟨rfl, hb4⟩
  replace hb4 : Below (bx w2 x y z).heap.size (bx w2 x y z) w3 := hb4
  have hbs := bx_size w2 x y z
  have hS0 : PlS w w2.heap.size b x y z w3 := by
    obtain ⟨q0, q1, q2⟩ := bx_cells hb4
    have hlt : w2.heap.size < (bx w2 x y z).heap.size := by omega
    refine ⟨hb3.trans (hb4.mono hb3.size), h3.below hb4, o, q0, q1, q2, ?_, ?_, ?_, hz2, Nat.lt_of_lt_of_le hlt hb4.size, Nat.ne_of_lt hlt2, hbB⟩
    all_goals
      rw [hb4.frozen hlt]
      simp [bx]
  clear h1 h3 hb1 hb2 hb3 hb4 hbx hbs
  generalize w2.heap.size = R at *
  go_wp2_with fail
  go_loopw [9, 13, 14] (fun p q u wr => ∃ k c : Nat, ∃ x' y' z' : Int, q = .bool true ∧ u = .int .i64 k ∧ p = .pointer (some ⟨c, 0, none⟩) ∧ k ≤ n ∧ PlS w R c x' y' z' wr) (fun _ _ u _ => n - (intOf u).toNat)
  case atStart => exact ⟨0, b, x, y, z, rfl, rfl, rfl, by omega, hS0⟩
  case round =>
    obtain ⟨k, c, x', y', z', rfl, rfl, rfl, hk, hS⟩ := hrel
    by_cases hlt : k < n
    · obtain ⟨bl, off, rfl⟩ : ∃ bl off, a = some ⟨bl, off, none⟩ := by
        rcases hact with h | ⟨bl, off, h, _⟩
        · omega
        · exact ⟨bl, off, h⟩
      obtain ⟨ax, at_, ad, e0, e1, e2⟩ := acts_at hact hS.hb k hlt
      obtain ⟨c', x2, y2, z2, hdo⟩ := do_any (w := wr.drew) (b := c) (x := x') (y := y') (z := z') hS.clk.drew hS.ok ax at_ ad
      have r0 := hS.r0
      have r1 := hS.r1
      have r2 := hS.r2
      have HDO := Lib.hid hdo
      clear hdo hact hS0
      go_wp2_with fail
      refine wp_region_calm (csC wr.drew (PlB wr c c' x2 y2 z2) (PlE wr R c c' x2 y2 z2) 6 12 [1, 5]) (by kernel_rfl) (by kernel_rfl) (csC_start _ _ _ _ _ _) ?_
      refine cs_pure rfl rfl rfl ?_
      apply Exists.intro
      refine ⟨fun w => ?_, ?_⟩
      · unfold calmAt calmUpon; go_simp; rfl
      simp only [Act.put, List.setIfInBounds_toArray, List.set_cons_succ, List.set_cons_zero]
      refine cs_load rfl rfl rfl (by simp) ?_
      apply Exists.intro
      refine ⟨?_, ?_⟩
      · unfold calmAt calmUpon; go_simp; rfl
      simp only [Act.put, List.setIfInBounds_toArray, List.set_cons_succ, List.set_cons_zero]
      iterate 3 (refine cs_pure rfl rfl rfl ?_; apply Exists.intro; refine ⟨fun w => ?_, ?_⟩; (unfold calmAt calmUpon; go_simp; rfl); simp only [Act.put, List.setIfInBounds_toArray, List.set_cons_succ, List.set_cons_zero])
      refine cs_load rfl rfl rfl (by simp) ?_
      apply Exists.intro
      refine ⟨?_, ?_⟩
      · unfold calmAt calmUpon; go_simp; rfl
      simp only [Act.put, List.setIfInBounds_toArray, List.set_cons_succ, List.set_cons_zero]
      refine cs_call rfl rfl (fun φ hr j hj => ?hready) ?_
      case hready =>
        simp only [List.mem_cons, List.mem_nil_iff, or_false] at hj
        rcases hj with rfl | rfl
        · exact hr ⟨1, .data⟩ (by simp) rfl
        · exact hr ⟨5, .data⟩ (by simp) rfl
      apply Exists.intro
      refine ⟨?_, ?_⟩
      · unfold calmAt calmUpon
        go_simp
        exact HDO.out.mono fun e w' h => ⟨h.1, plB_of h⟩
      simp only [Act.put, List.setIfInBounds_toArray, List.set_cons_succ, List.set_cons_zero]
      iterate 5 (refine cs_pure rfl rfl rfl ?_; apply Exists.intro; refine ⟨fun w => ?_, ?_⟩; (unfold calmAt calmUpon; go_simp; rfl); simp only [Act.put, List.setIfInBounds_toArray, List.set_cons_succ, List.set_cons_zero])
      refine cs_store rfl rfl (fun φ hr => hr ⟨6, .phase⟩ (by simp) rfl) ?_
      apply Exists.intro
      refine ⟨fun ww hB => ?_, ?_⟩
      · obtain ⟨⟨q0, q1, q2⟩, ⟨g0, g1, g2⟩⟩ := plB_cells hS hB
        have hE : PlE wr R c c' x2 y2 z2 (set3 ww R x2 y2 z2) := ⟨ww, hB, rfl⟩
        unfold calmAt calmUpon
        go_simp
        exact ⟨rfl, hE⟩
      simp only [Act.put]
      iterate 1 (refine cs_pure rfl rfl rfl ?_; apply Exists.intro; refine ⟨fun w => ?_, ?_⟩; (unfold calmAt calmUpon; go_simp; rfl); simp only [Act.put, List.setIfInBounds_toArray, List.set_cons_succ, List.set_cons_zero])
      refine calm_nil ?_
      intro w5 hw5
      have hS' := plS_next hS (hw5.2.2.2.2 rfl)
      clear r0 r1 r2 e0 e1 e2 HDO hS hw5
      go_wp2_with fail
      exact ⟨⟨k + 1, c', x2, y2, z2, rfl, by go_num, rfl, by omega, hS'⟩, by simp [intOf]; omega⟩
    · have hb := hS.hb
      clear hact
      go_wp2_with fail
      refine (known_any _).mono ?_
      rintro e w4 ⟨rfl, hb4⟩
      go_wp2_with fail
      go_ret
      exact ⟨rfl, hb.trans (hb4.mono hb.size)⟩

theorem cells41 : Try.prog.cellsOf 41 = 3 := by kernel_rfl
theorem cells3 : Try.prog.cellsOf 3 = 1 := by kernel_rfl
/-- The argument's acts, out of its reading. -/
theorem acts_open {H : Type} {enc : TypeId × Value → H} {W : World} {spare : Nat → Bool} {held : Bool} {v : Value} {d : DataW H} {ps : List MemPlace} (h : DataW.Trod enc Try.prog W 0 spare held 36 v d ps) {a : Option Addr} {len cap : Nat} (hv : v = .slice a len cap) : Acts W a len := by
  obtain ⟨fuel, hf⟩ := h
  subst hv
  rcases Deep.open_slice Try.underlying36 hf with ⟨hcs, _⟩ | ⟨a', len', cap', m, n, D, Pl, hcs, _, hl, _, hm, _, hi⟩
  · simp [Value.cells] at hcs
    exact .inl hcs.2.1
  · simp [Value.cells] at hcs
    obtain ⟨rfl, rfl, rfl⟩ := hcs
    have hlm : len ≤ m := by rw [hm]; split <;> omega
    rcases Nat.eq_zero_or_pos len with h0 | h0
    · exact .inl h0
    right
    have key : ∀ i, i < len → ∃ x t e : Int, W.cell? ((a'.add (i * 3)).add 0) = some (.int .i64 x) ∧ W.cell? ((a'.add (i * 3)).add 1) = some (.int .i64 t) ∧ W.cell? ((a'.add (i * 3)).add 2) = some (.int .i64 e) := by
      intro i hlt
      obtain ⟨cs', hc, ht⟩ := hi i (by omega)
      rw [cells41] at hc
      obtain ⟨_, hcl, hat⟩ := World.cells?_some hc
      obtain ⟨y0, y1, y2, n', _, _, g0, g1, g2⟩ := Deep.trod_struct3 Try.underlying41 ht
      obtain ⟨c0, c1, c2, rfl⟩ : ∃ c0 c1 c2, cs' = [c0, c1, c2] := by
        match cs', hcl with
        | [c0, c1, c2], _ => exact ⟨c0, c1, c2, rfl⟩
      rw [cells3] at g0 g1 g2
      obtain ⟨x, e0, _, _⟩ := DataW.trod_int Try.underlying3 g0
      obtain ⟨t, e1, _, _⟩ := DataW.trod_int Try.underlying3 g1
      obtain ⟨q, e2, _, _⟩ := DataW.trod_int Try.underlying3 g2
      simp at e0 e1 e2
      subst e0 e1 e2
      exact ⟨x, t, q, by rw [hat 0 (by omega)]; rfl, by rw [hat 1 (by omega)]; rfl, by rw [hat 2 (by omega)]; rfl⟩
    obtain ⟨b, off, spot⟩ := a'
    have hspot : spot = none := by
      obtain ⟨x, _, _, e0, _, _⟩ := key 0 h0
      simpa [Addr.add] using World.cell?_spot e0
    subst hspot
    refine ⟨b, off, rfl, ?_, fun i hlt => ?_⟩
    · obtain ⟨x, _, _, e0, _, _⟩ := key 0 h0
      exact World.block_lt_of_cell? W _ (by simpa [Addr.add] using e0)
    · obtain ⟨x, t, q, e0, e1, e2⟩ := key i hlt
      rw [add_plain, add_plain] at e0 e1 e2
      exact ⟨x, t, q, e0, e1, e2⟩

theorem walk (x y z : Int) (a : Option Addr) (n cap : Nat) (w : World) (hact : Acts w a n) :
    Calls Try.prog 4 #[.int .i64 x, .int .i64 y, .int .i64 z, .slice a n cap] w fun e w' => e = .returned (.bool true) ∧ Below w.heap.size w w' := by
  by_cases hn : 30 < n
  · exact walk_many x y z a n cap hn w
  · by_cases h : okB x y z = true
    · exact walk_ok x y z a n cap hn (okB_true h) w hact
    · exact walk_no x y z a n cap hn (Bool.eq_false_iff.2 h) w

set_option maxRecDepth 100000 in
theorem lifted (os : Os) (started : os.Started) (H : Type) (enc : TypeId × Value → H) :
    ReturnsInHanded {} Try.checked os 4 .any (Rows.driftPlaysSpec.pre6 enc Try.prog Try.f4 Rows.driftPlaysRow.domain false) (Rows.driftPlaysSpec.post enc Try.prog Try.f4 false true false false) := by
  refine returnsInHanded_of_change (C := Try.checked) own started (by kernel_rfl) Try.func4
    (ChangeSpec.witness6 (enc := enc) (C := Try.checked) false ⟨#[], #[.int .i64 0, .int .i64 0, .int .i64 0, .slice none 0 0], []⟩ 8 (by kernel_rfl) (by kernel_rfl) (by kernel_rfl) (by kernel_rfl)) ?_
  intro W base args ds gs before hval0 hW hcnd _
  have hval : ∀ (j : Nat) t v, Try.f4.params[j]? = some t → args[j]? = some v → Value.okWide Try.prog W .any base t v := hval0
  have hW' := hW
  obtain ⟨p, q, hA0, hV, rfl, hfz, hnd⟩ := hW
  have hA : DataW.TrodAll enc Try.prog W 0 (fun _ => true) true Try.f4.params.toList args.toList ds p := hA0
  rw [Try.params4] at hA hval
  obtain ⟨v0, vs0, d0, ds0, p0, q0, hargs, rfl, rfl, h0, r0⟩ := trodAll_cons hA
  obtain ⟨v1, vs1, d1, ds1, p1, q1, rfl, rfl, rfl, h1, r1⟩ := trodAll_cons r0
  obtain ⟨v2, vs2, d2, ds2, p2, q2, rfl, rfl, rfl, h2, r2⟩ := trodAll_cons r1
  obtain ⟨v3, vs3, d3, ds3, p3, q3, rfl, rfl, rfl, h3, r3⟩ := trodAll_cons r2
  obtain ⟨rfl, rfl, rfl⟩ := trodAll_nil r3
  obtain rfl : args = #[v0, v1, v2, v3] := by cases args; simp_all
  obtain ⟨a0, rfl, rfl, rfl, w0⟩ := open_int Try.underlying3 (hval 0 3 v0 rfl rfl) h0
  obtain ⟨a1, rfl, rfl, rfl, w1⟩ := open_int Try.underlying3 (hval 1 3 v1 rfl rfl) h1
  obtain ⟨a2, rfl, rfl, rfl, w2⟩ := open_int Try.underlying3 (hval 2 3 v2 rfl rfl) h2
  obtain ⟨sa, len, cap, rfl⟩ := okWide_slice Try.underlying36 (hval 3 36 v3 rfl rfl)
  refine (walk a0 a1 a2 sa len cap W (acts_open h3 rfl)).mono fun e W' ⟨he, hb⟩ => ?_
  subst he
  exact ⟨_, rfl, law_post rfl (by kernel_rfl) (by rw [Try.params4]; intro t ht; simp at ht; rcases ht with rfl | rfl <;> exact ⟨by kernel_rfl, of_decide_eq_true (by kernel_rfl)⟩) rfl rfl rfl hW' hb⟩

theorem over : Rows.driftPlaysRow.holds Try.pinned (OpenSpec.ofChange Rows.driftPlaysSpec) :=
  OpenClaim.holds_of_wide 4 Try.f4 rfl rfl rfl rfl rfl rfl rfl ⟨rfl, rfl, rfl, rfl, rfl⟩ rfl rfl rfl rfl rfl (by kernel_rfl) Try.func4 (by kernel_rfl)
    (of_decide_eq_true (by kernel_rfl)) (by unfold Func.isWrapper; first | (rw [if_pos (by decide +kernel)]; kernel_rfl) | (rw [if_neg (by decide +kernel)]; exact ⟨rfl, rfl⟩))
    (fun os started H enc _ => lifted os started H enc)

/-- THE STATEMENT -/
theorem proved : Rows.DriftPlaysSaid :=
  over
#print axioms proved
end Go.Proofs.Ytjdefiiinameiaa.driftPlays
