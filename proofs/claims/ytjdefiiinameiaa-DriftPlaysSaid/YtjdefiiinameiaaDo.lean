/- do: a call on a clock and on the reference; they agree. -/
import Derived.Test.YtjdefiiinameiaaAgrees
import Derived.Test.YtjdefiiinameiaaCalm
namespace Go.Proofs.Ytjdefiiinameiaa
open Go.RowKit

/-- The world of do behind its head: the boxed arguments, the result's place, the copy. -/
def doW (w : World) (x y z a t d : Int) : World := (((w.alloc (.cells #[.int .i64 x, .int .i64 y, .int .i64 z] 27)).alloc (.cells #[.int .i64 a, .int .i64 t, .int .i64 d] 41)).alloc (.cells #[.int .i64 0, .int .i64 0, .int .i64 0] 27)).alloc (.cells #[.int .i64 x, .int .i64 y, .int .i64 z] 27)

theorem doW_size (w : World) (x y z a t d : Int) : (doW w x y z a t d).heap.size = w.heap.size + 4 := by simp [doW]
theorem doW_below (w : World) (x y z a t d : Int) : Below w.heap.size w (doW w x y z a t d) :=
  ((((Below.refl _ _).alloc (Nat.le_refl _) _).alloc (by simp) _).alloc (by simp; omega) _).alloc (by simp; omega) _
/-- What the head has laid, in a later world: the reference's clock, the act, the result's place, the copy (x' y' z'). -/
structure DoC (s : Nat) (w2 : World) (x y z a t d x' y' z' : Int) : Prop where
  r0 : w2.cell? ⟨s, 0, none⟩ = some (.int .i64 x)
  r1 : w2.cell? ⟨s, 1, none⟩ = some (.int .i64 y)
  r2 : w2.cell? ⟨s, 2, none⟩ = some (.int .i64 z)
  a0 : w2.cell? ⟨s + 1, 0, none⟩ = some (.int .i64 a)
  a1 : w2.cell? ⟨s + 1, 1, none⟩ = some (.int .i64 t)
  a2 : w2.cell? ⟨s + 1, 2, none⟩ = some (.int .i64 d)
  e0 : w2.cell? ⟨s + 1 + 1, 0, none⟩ = some (.int .i64 0)
  e1 : w2.cell? ⟨s + 1 + 1, 1, none⟩ = some (.int .i64 0)
  e2 : w2.cell? ⟨s + 1 + 1, 2, none⟩ = some (.int .i64 0)
  f0 : w2.frozen? ⟨s + 1 + 1, 0, none⟩ = false
  f1 : w2.frozen? ⟨s + 1 + 1, 1, none⟩ = false
  f2 : w2.frozen? ⟨s + 1 + 1, 2, none⟩ = false
  g0 : w2.frozen? ⟨s + 1 + 1 + 1, 0, none⟩ = false
  g1 : w2.frozen? ⟨s + 1 + 1 + 1, 1, none⟩ = false
  g2 : w2.frozen? ⟨s + 1 + 1 + 1, 2, none⟩ = false
  s0 : w2.cell? ⟨s + 1 + 1 + 1, 0, none⟩ = some (.int .i64 x')
  s1 : w2.cell? ⟨s + 1 + 1 + 1, 1, none⟩ = some (.int .i64 y')
  s2 : w2.cell? ⟨s + 1 + 1 + 1, 2, none⟩ = some (.int .i64 z')
  lt : s + 4 ≤ w2.heap.size
theorem doW_cells (w : World) (x y z a t d : Int) : DoC w.heap.size (doW w x y z a t d) x y z a t d x y z := by
  have h1 : w.heap.size < w.heap.size + 1 + 1 := by omega
  have h2 : w.heap.size < w.heap.size + 1 + 1 + 1 := by omega
  constructor
  all_goals simp [doW, go_sem, h1, h2]
theorem DoC.but {s b : Nat} {w w2 : World} {x y z a t d x' y' z' : Int} (h : DoC s w x y z a t d x' y' z') (hb : But b w w2) (hs : b < s) : DoC s w2 x y z a t d x' y' z' := by
  have hl := h.lt
  have hc : ∀ p o, s ≤ p → p < s + 4 → w2.cell? ⟨p, o, none⟩ = w.cell? ⟨p, o, none⟩ := fun p o h1 h2 => World.cell?_of_block (w := w) (hb.block p (by omega) (by omega))
  have hf : ∀ p o, s ≤ p → p < s + 4 → w2.frozen? ⟨p, o, none⟩ = w.frozen? ⟨p, o, none⟩ := fun p o h1 h2 => World.frozen?_of_block (w := w) (hb.block p (by omega) (by omega))
  obtain ⟨r0, r1, r2, a0, a1, a2, e0, e1, e2, f0, f1, f2, g0, g1, g2, s0, s1, s2, lt⟩ := h
  constructor
  all_goals first
    | exact Nat.le_trans hl hb.size
    | (rw [hc _ _ (by omega) (by omega)]; assumption)
    | (rw [hf _ _ (by omega) (by omega)]; assumption)
theorem DoC.set {s : Nat} {w : World} {x y z a t d x' y' z' : Int} (h : DoC s w x y z a t d x' y' z') (u v q : Int) :
    DoC s (((w.setCell ⟨s + 1 + 1 + 1, 0, none⟩ (.int .i64 u)).setCell ⟨s + 1 + 1 + 1, 1, none⟩ (.int .i64 v)).setCell ⟨s + 1 + 1 + 1, 2, none⟩ (.int .i64 q)) x y z a t d u v q := by
  obtain ⟨r0, r1, r2, a0, a1, a2, e0, e1, e2, f0, f1, f2, g0, g1, g2, s0, s1, s2, lt⟩ := h
  have n1 : ¬ s = s + 1 + 1 + 1 := by omega
  have n2 : ¬ s + 1 = s + 1 + 1 + 1 := by omega
  have n3 : ¬ s + 1 + 1 = s + 1 + 1 + 1 := by omega
  constructor
  all_goals simp [go_sem, *]
theorem Clk.drew {w : World} {b : Nat} {x y z : Int} (h : Clk w b x y z) : Clk w.drew b x y z := ⟨h.c0, h.c1, h.c2, h.c3, h.f0, h.f1, h.f2, h.lt⟩
theorem DoC.drew {s : Nat} {w : World} {x y z a t d x' y' z' : Int} (h : DoC s w x y z a t d x' y' z') : DoC s w.drew x y z a t d x' y' z' :=
  ⟨h.r0, h.r1, h.r2, h.a0, h.a1, h.a2, h.e0, h.e1, h.e2, h.f0, h.f1, h.f2, h.g0, h.g1, h.g2, h.s0, h.s1, h.s2, h.lt⟩

theorem Clk.set3far {w : World} {b p : Nat} {x y z : Int} (h : Clk w b x y z) (hn : b ≠ p) (u v q : Int) :
    Clk (((w.setCell ⟨p, 0, none⟩ (.int .i64 u)).setCell ⟨p, 1, none⟩ (.int .i64 v)).setCell ⟨p, 2, none⟩ (.int .i64 q)) b x y z := by
  have hu : But p w (((w.setCell ⟨p, 0, none⟩ (.int .i64 u)).setCell ⟨p, 1, none⟩ (.int .i64 v)).setCell ⟨p, 2, none⟩ (.int .i64 q)) :=
    (((But.of_below (Below.refl _ _)).setCell 0 _).setCell 1 _).setCell 2 _
  exact hu.clk h hn
theorem But.set3far {w w' : World} {b p : Nat} (h : But b w w') (hn : w.heap.size ≤ p) (u v q : Int) :
    But b w (((w'.setCell ⟨p, 0, none⟩ (.int .i64 u)).setCell ⟨p, 1, none⟩ (.int .i64 v)).setCell ⟨p, 2, none⟩ (.int .i64 q)) := by
  have hu : But p w' (((w'.setCell ⟨p, 0, none⟩ (.int .i64 u)).setCell ⟨p, 1, none⟩ (.int .i64 v)).setCell ⟨p, 2, none⟩ (.int .i64 q)) :=
    (((But.of_below (Below.refl _ _)).setCell 0 _).setCell 1 _).setCell 2 _
  exact ⟨hu.os.trans h.os, hu.tape.trans h.tape, hu.output.trans h.output, Nat.le_trans h.size hu.size, fun k hk hb => (hu.block k (Nat.lt_of_lt_of_le hk h.size) (by omega)).trans (h.block k hk hb)⟩

/-- The result's place is written. -/
def set3 (w : World) (p : Nat) (x y z : Int) : World := ((w.setCell ⟨p, 0, none⟩ (.int .i64 x)).setCell ⟨p, 1, none⟩ (.int .i64 y)).setCell ⟨p, 2, none⟩ (.int .i64 z)
theorem below_set {W w : World} (h : Below W.heap.size W w) (a : Addr) (v : Value) : Below (W.setCell a v).heap.size (W.setCell a v) (w.setCell a v) := by
  refine ⟨h.os, h.tape, h.output, by simpa [World.setCell] using h.size, fun k hk => ?_⟩
  have hk' : k < W.heap.size := by simpa [World.setCell] using hk
  simp only [World.setCell, Array.getElem?_modify]
  rw [h.block k hk']
/-- The class of the return's region: below W nothing has changed; the result's place is written, or not yet. -/
def doB (W : World) (p : Nat) (x y z : Int) : Bool → World → Prop
  | false => Below W.heap.size W
  | true => Below (set3 W p x y z).heap.size (set3 W p x y z)
theorem do_on {W : World} {p : Nat} {x y z : Int} {bb : Bool} {w w' : World} (h : doB W p x y z bb w) (hb : Below w.heap.size w w') : doB W p x y z bb w' := by
  cases bb
  · exact Below.trans h (hb.mono (Below.size h))
  · exact Below.trans h (hb.mono (Below.size h))
/-- What the region's loads read. -/
structure DoR (s b : Nat) (w : World) (x y z t : Int) : Prop where
  s0 : w.cell? ⟨s + 1 + 1 + 1, 0, none⟩ = some (.int .i64 x)
  s1 : w.cell? ⟨s + 1 + 1 + 1, 1, none⟩ = some (.int .i64 y)
  s2 : w.cell? ⟨s + 1 + 1 + 1, 2, none⟩ = some (.int .i64 z)
  a1 : w.cell? ⟨s + 1, 1, none⟩ = some (.int .i64 t)
  clk : Clk w b x y z
/-- The result's place may be written. -/
structure DoE (s : Nat) (w : World) : Prop where
  e0 : w.cell? ⟨s + 1 + 1, 0, none⟩ = some (.int .i64 0)
  e1 : w.cell? ⟨s + 1 + 1, 1, none⟩ = some (.int .i64 0)
  e2 : w.cell? ⟨s + 1 + 1, 2, none⟩ = some (.int .i64 0)
  f0 : w.frozen? ⟨s + 1 + 1, 0, none⟩ = false
  f1 : w.frozen? ⟨s + 1 + 1, 1, none⟩ = false
  f2 : w.frozen? ⟨s + 1 + 1, 2, none⟩ = false
theorem do_place {W ww : World} {s : Nat} {x y z a t d x' y' z' x2 y2 z2 : Int} (hC : DoC s W x y z a t d x' y' z') (hb : doB W (s + 1 + 1) x2 y2 z2 false ww) : DoE s ww := by
  have hb' : Below W.heap.size W ww := hb
  have hl := hC.lt
  have h0 : ∀ o, (⟨s + 1 + 1, o, none⟩ : Addr).block < W.heap.size := fun o => by show s + 1 + 1 < _; omega
  exact ⟨by rw [hb'.cell (h0 0)]; exact hC.e0, by rw [hb'.cell (h0 1)]; exact hC.e1, by rw [hb'.cell (h0 2)]; exact hC.e2,
    by rw [hb'.frozen (h0 0)]; exact hC.f0, by rw [hb'.frozen (h0 1)]; exact hC.f1, by rw [hb'.frozen (h0 2)]; exact hC.f2⟩
theorem do_write {W w : World} {p : Nat} {x y z : Int} (h : doB W p x y z false w) : doB W p x y z true (set3 w p x y z) :=
  below_set (below_set (below_set h _ _) _ _) _ _
theorem set3_but (W : World) (p : Nat) (x y z : Int) : But p W (set3 W p x y z) := (((But.of_below (Below.refl _ _)).setCell 0 _).setCell 1 _).setCell 2 _
theorem do_facts {W ww : World} {s b : Nat} {x y z a t d x' y' z' : Int} {bb : Bool} (hC : DoC s W x y z a t d x' y' z') (h1 : Clk W b x' y' z') (hlt : b < s) (hb : doB W (s + 1 + 1) x' y' z' bb ww) : DoR s b ww x' y' z' t := by
  have hl := hC.lt
  have key : ∀ W' : World, But (s + 1 + 1) W W' → Below W'.heap.size W' ww → DoR s b ww x' y' z' t := fun W' hu hb' => by
    have hz := hu.size
    have hc : ∀ p o, p < W.heap.size → p ≠ s + 1 + 1 → ww.cell? ⟨p, o, none⟩ = W.cell? ⟨p, o, none⟩ := fun p o h hn => by
      rw [hb'.cell (show (⟨p, o, none⟩ : Addr).block < W'.heap.size from Nat.lt_of_lt_of_le h hz)]
      exact World.cell?_of_block (w := W) (hu.block p h hn)
    refine ⟨?_, ?_, ?_, ?_, (hu.clk h1 (by omega)).below hb'⟩
    · rw [hc _ _ (by omega) (by omega)]; exact hC.s0
    · rw [hc _ _ (by omega) (by omega)]; exact hC.s1
    · rw [hc _ _ (by omega) (by omega)]; exact hC.s2
    · rw [hc _ _ (by omega) (by omega)]; exact hC.a1
  cases bb
  · exact key W (But.of_below (Below.refl _ _)) hb
  · exact key _ (set3_but W _ _ _ _) hb

/-- What is known behind the return's region. -/
theorem do_end {w W w5 : World} {b : Nat} {x y z a t d x' y' z' : Int} (hC : DoC w.heap.size W x y z a t d x' y' z') (h1 : Clk W b x' y' z') (hlt : b < w.heap.size) (hU : But b w W)
    (hb : Below (set3 W (w.heap.size + 1 + 1) x' y' z').heap.size (set3 W (w.heap.size + 1 + 1) x' y' z') w5) :
    (w5.cell? ⟨w.heap.size + 1 + 1, 0, none⟩ = some (.int .i64 x') ∧ w5.cell? ⟨w.heap.size + 1 + 1, 1, none⟩ = some (.int .i64 y') ∧ w5.cell? ⟨w.heap.size + 1 + 1, 2, none⟩ = some (.int .i64 z')) ∧ Clk w5 b x' y' z' ∧ But b w w5 := by
  have hl := hC.lt
  have hu := set3_but W (w.heap.size + 1 + 1) x' y' z'
  have hz := hu.size
  have h2 := (hu.clk h1 (by omega)).below hb
  have h3 : But b w w5 := by
    have h4 := hU.set3far (p := w.heap.size + 1 + 1) (by omega) x' y' z'
    exact h4.trans (But.of_below hb)
  have e0 := hC.e0
  have e1 := hC.e1
  have e2 := hC.e2
  have hc : ∀ o, w5.cell? ⟨w.heap.size + 1 + 1, o, none⟩ = (set3 W (w.heap.size + 1 + 1) x' y' z').cell? ⟨w.heap.size + 1 + 1, o, none⟩ := fun o => hb.cell (show w.heap.size + 1 + 1 < _ by omega)
  refine ⟨⟨?_, ?_, ?_⟩, h2, h3⟩
  all_goals
    rw [hc]
    simp [set3, go_sem, e0, e1, e2]

/-- What the loads of the copy's return read. -/
structure DoR2 (s c : Nat) (w : World) (x y z t : Int) : Prop where
  r0 : w.cell? ⟨s, 0, none⟩ = some (.int .i64 x)
  r1 : w.cell? ⟨s, 1, none⟩ = some (.int .i64 y)
  r2 : w.cell? ⟨s, 2, none⟩ = some (.int .i64 z)
  a1 : w.cell? ⟨s + 1, 1, none⟩ = some (.int .i64 t)
  clk : Clk w c x y z
theorem do_facts2 {W ww : World} {s c : Nat} {x y z a t d x' y' z' : Int} {bb : Bool} (hC : DoC s W x y z a t d x' y' z') (h1 : Clk W c x y z) (hlt : c ≠ s + 1 + 1) (hb : doB W (s + 1 + 1) x y z bb ww) : DoR2 s c ww x y z t := by
  have hl := hC.lt
  have key : ∀ W' : World, But (s + 1 + 1) W W' → Below W'.heap.size W' ww → DoR2 s c ww x y z t := fun W' hu hb' => by
    have hz := hu.size
    have hc : ∀ p o, p < W.heap.size → p ≠ s + 1 + 1 → ww.cell? ⟨p, o, none⟩ = W.cell? ⟨p, o, none⟩ := fun p o h hn => by
      rw [hb'.cell (show (⟨p, o, none⟩ : Addr).block < W'.heap.size from Nat.lt_of_lt_of_le h hz)]
      exact World.cell?_of_block (w := W) (hu.block p h hn)
    refine ⟨?_, ?_, ?_, ?_, (hu.clk h1 (by omega)).below hb'⟩
    · rw [hc _ _ (by omega) (by omega)]; exact hC.r0
    · rw [hc _ _ (by omega) (by omega)]; exact hC.r1
    · rw [hc _ _ (by omega) (by omega)]; exact hC.r2
    · rw [hc _ _ (by omega) (by omega)]; exact hC.a1
  cases bb
  · exact key W (But.of_below (Below.refl _ _)) hb
  · exact key _ (set3_but W _ _ _ _) hb
theorem copy_clk {w w' : World} {b : Nat} {x y z : Int} (h : Clk w b x y z) (he : w.alloc (.cells #[.int .i64 x, .int .i64 y, .int .i64 z, .bool true] 54) = w') :
    Clk w' w.heap.size x y z ∧ Below w.heap.size w w' ∧ b ≠ w.heap.size := by
  subst he
  exact ⟨clk_new w x y z, (Below.refl _ _).alloc (Nat.le_refl _) _, Nat.ne_of_lt h.lt⟩

theorem do_end2 {w W w5 : World} {b c : Nat} {x y z a t d x' y' z' : Int} (hC : DoC w.heap.size W x y z a t d x' y' z') (h1 : Clk W c x y z) (hn : c ≠ w.heap.size + 1 + 1) (hU : But b w W)
    (hb : Below (set3 W (w.heap.size + 1 + 1) x y z).heap.size (set3 W (w.heap.size + 1 + 1) x y z) w5) :
    (w5.cell? ⟨w.heap.size + 1 + 1, 0, none⟩ = some (.int .i64 x) ∧ w5.cell? ⟨w.heap.size + 1 + 1, 1, none⟩ = some (.int .i64 y) ∧ w5.cell? ⟨w.heap.size + 1 + 1, 2, none⟩ = some (.int .i64 z)) ∧ Clk w5 c x y z ∧ But b w w5 := by
  have hl := hC.lt
  have hu := set3_but W (w.heap.size + 1 + 1) x y z
  have hz := hu.size
  have h2 := (hu.clk h1 hn).below hb
  have h3 : But b w w5 := by
    have h4 := hU.set3far (p := w.heap.size + 1 + 1) (by omega) x y z
    exact h4.trans (But.of_below hb)
  have e0 := hC.e0
  have e1 := hC.e1
  have e2 := hC.e2
  have hc : ∀ o, w5.cell? ⟨w.heap.size + 1 + 1, o, none⟩ = (set3 W (w.heap.size + 1 + 1) x y z).cell? ⟨w.heap.size + 1 + 1, o, none⟩ := fun o => hb.cell (show w.heap.size + 1 + 1 < _ by omega)
  refine ⟨⟨?_, ?_, ?_⟩, h2, h3⟩
  all_goals
    rw [hc]
    simp [set3, go_sem, e0, e1, e2]

/-- What do answers: the clock that is used from then on, its state, and true. -/
def DoQ (b : Nat) (w : World) (c : Nat) (x' y' z' : Int) (e : Ending) (w' : World) : Prop :=
  e = .returned (.tuple #[.pointer (some ⟨c, 0, none⟩), .agg #[.int .i64 x', .int .i64 y', .int .i64 z'], .bool true]) ∧ Okc x' y' z' ∧ Clk w' c x' y' z' ∧ But b w w' ∧ (c = b ∨ w.heap.size ≤ c)

set_option maxRecDepth 100000 in
set_option maxHeartbeats 1000000 in
theorem do_step {w : World} {b : Nat} {x y z : Int} (h : Clk w b x y z) (o : Okc x y z) (t d : Int) :
    Calls Try.prog 14 #[.pointer (some ⟨b, 0, none⟩), .agg #[.int .i64 x, .int .i64 y, .int .i64 z], .agg #[.int .i64 0, .int .i64 t, .int .i64 d]] w (DoQ b w b (stX x y z t d) (stY x y z t d) z) := by
  have hb0 := doW_below w x y z 0 t d
  have h0 := h.below hb0
  have hlt := h.lt
  have hC := doW_cells w x y z 0 t d
  go_enter Try.func14, Try.ntmps14
  go_wp2_with fail
  refine (step_any h0 o t d).mono ?_
  rintro e w1 ⟨rfl, h1, hu1⟩
  replace hC := hC.but hu1 hlt
  have hU := (But.of_below (b := b) hb0).trans hu1
  clear hb0 h0 hu1 h
  have k0 := hC.r0
  have k1 := hC.r1
  have k2 := hC.r2
  have k3 := hC.a1
  have k4 := hC.a2
  go_wp2_with fail
  refine (rstep_any o t d _).mono ?_
  rintro e w2 ⟨rfl, hb2⟩
  replace hC := hC.but (But.of_below (b := b) hb2) hlt
  replace h1 := h1.below hb2
  replace hU := hU.trans (But.of_below (b := b) hb2)
  clear k0 k1 k2 k3 k4 hb2
  have k0 := hC.s0
  have k1 := hC.s1
  have k2 := hC.s2
  have k3 := hC.g0
  have k4 := hC.g1
  have k5 := hC.g2
  go_wp2_with fail
  replace hC := hC.set (stX x y z t d) (stY x y z t d) z
  replace h1 := h1.set3far (p := w.heap.size + 1 + 1 + 1) (by omega) (stX x y z t d) (stY x y z t d) z
  replace hU := hU.set3far (p := w.heap.size + 1 + 1 + 1) (by omega) (stX x y z t d) (stY x y z t d) z
  have o2 := o.step t d
  clear k0 k1 k2 k3 k4 k5 o
  generalize ((w2.setCell ⟨w.heap.size + 1 + 1 + 1, 0, none⟩ (.int .i64 (stX x y z t d))).setCell ⟨w.heap.size + 1 + 1 + 1, 1, none⟩ (.int .i64 (stY x y z t d))).setCell ⟨w.heap.size + 1 + 1 + 1, 2, none⟩ (.int .i64 z) = W at *
  generalize stX x y z t d = x' at *
  generalize stY x y z t d = y' at *
  obtain ⟨z', rfl⟩ : ∃ z' : Int, z' = z := ⟨z, rfl⟩
  have hF : ∀ bb ww, doB W (w.heap.size + 1 + 1) x' y' z' bb ww → DoR w.heap.size b ww x' y' z' t := fun bb ww hb => do_facts hC h1 hlt hb
  have hD : ∀ ww, doB W (w.heap.size + 1 + 1) x' y' z' false ww → DoE w.heap.size ww := fun ww hb => do_place hC hb
  refine wp_region_calm (oneC (doB W (w.heap.size + 1 + 1) x' y' z') 13) (by kernel_rfl) (by kernel_rfl) (Below.refl _ _).drew ?_
  have HF := Lib.hid hF
  have HD := Lib.hid hD
  clear hF hD
  iterate 10 (refine calm_read rfl rfl ?_; apply Exists.intro; refine ⟨fun bb ww hww => ?_, ?_⟩; ((have m := HF.out bb ww hww); (obtain ⟨m0, m1, m2, m3, mc⟩ := m); unfold calmAt calmUpon; go_simp; rfl); simp only [Act.put, List.setIfInBounds_toArray, List.set_cons_succ, List.set_cons_zero])
  refine calm_read rfl rfl ?_
  apply Exists.intro
  refine ⟨fun bb ww hww => ?_, ?_⟩
  · have m := HF.out bb ww hww
    obtain ⟨m0, m1, m2, m3, mc⟩ := m
    unfold calmAt calmUpon
    go_simp
    exact (agrees_any mc o2 t).mono fun e w' ⟨he, hb⟩ => ⟨he, do_on hww hb⟩
  simp only [Act.put, List.setIfInBounds_toArray, List.set_cons_succ, List.set_cons_zero]
  iterate 2 (refine calm_read rfl rfl ?_; apply Exists.intro; refine ⟨fun bb ww hww => ?_, ?_⟩; ((have m := HF.out bb ww hww); (obtain ⟨m0, m1, m2, m3, mc⟩ := m); unfold calmAt calmUpon; go_simp; rfl); simp only [Act.put, List.setIfInBounds_toArray, List.set_cons_succ, List.set_cons_zero])
  refine calm_write rfl ?_
  apply Exists.intro
  refine ⟨fun ww hww => ?_, ?_⟩
  · have m := HD.out ww hww
    obtain ⟨m0, m1, m2, m3, m4, m5⟩ := m
    have hw' := do_write (x := x') (y := y') (z := z') hww
    unfold calmAt calmUpon
    go_simp
    exact ⟨rfl, hw'⟩
  simp only [Act.put]
  iterate 1 (refine calm_read rfl rfl ?_; apply Exists.intro; refine ⟨fun bb ww hww => ?_, ?_⟩; ((have m := HF.out bb ww hww); (obtain ⟨m0, m1, m2, m3, mc⟩ := m); unfold calmAt calmUpon; go_simp; rfl); simp only [Act.put, List.setIfInBounds_toArray, List.set_cons_succ, List.set_cons_zero])
  refine calm_nil ?_
  intro w5 hw5
  obtain ⟨⟨q0, q1, q2⟩, q3, q4⟩ := do_end hC h1 hlt hU hw5
  clear HF HD hw5
  go_wp2_with fail
  exact bodyPost_ret (v := .tuple #[.pointer (some ⟨b, 0, none⟩), .agg #[.int .i64 x', .int .i64 y', .int .i64 z'], .bool true]) (by simp [results, Try.results14, go_sem, q0, q1, q2]) rfl ⟨rfl, o2, q3, q4, .inl rfl⟩

set_option maxRecDepth 100000 in
set_option maxHeartbeats 1000000 in
theorem do_set {w : World} {b : Nat} {x y z : Int} (h : Clk w b x y z) (o : Okc x y z) (t d : Int) :
    Calls Try.prog 14 #[.pointer (some ⟨b, 0, none⟩), .agg #[.int .i64 x, .int .i64 y, .int .i64 z], .agg #[.int .i64 1, .int .i64 t, .int .i64 d]] w (DoQ b w b (srX x y z t d) (srY x y z t d) (srZ x y z t d)) := by
  have hb0 := doW_below w x y z 1 t d
  have h0 := h.below hb0
  have hlt := h.lt
  have hC := doW_cells w x y z 1 t d
  go_enter Try.func14, Try.ntmps14
  go_wp2_with fail
  refine (set_any h0 o t d).mono ?_
  rintro e w1 ⟨rfl, h1, hu1⟩
  replace hC := hC.but hu1 hlt
  have hU := (But.of_below (b := b) hb0).trans hu1
  clear hb0 h0 hu1 h
  have k0 := hC.r0
  have k1 := hC.r1
  have k2 := hC.r2
  have k3 := hC.a1
  have k4 := hC.a2
  go_wp2_with fail
  refine (rset_any o t d _).mono ?_
  rintro e w2 ⟨rfl, hb2⟩
  replace hC := hC.but (But.of_below (b := b) hb2) hlt
  replace h1 := h1.below hb2
  replace hU := hU.trans (But.of_below (b := b) hb2)
  clear k0 k1 k2 k3 k4 hb2
  have k0 := hC.s0
  have k1 := hC.s1
  have k2 := hC.s2
  have k3 := hC.g0
  have k4 := hC.g1
  have k5 := hC.g2
  go_wp2_with fail
  replace hC := hC.set (srX x y z t d) (srY x y z t d) (srZ x y z t d)
  replace h1 := h1.set3far (p := w.heap.size + 1 + 1 + 1) (by omega) (srX x y z t d) (srY x y z t d) (srZ x y z t d)
  replace hU := hU.set3far (p := w.heap.size + 1 + 1 + 1) (by omega) (srX x y z t d) (srY x y z t d) (srZ x y z t d)
  have o2 := o.set t d
  clear k0 k1 k2 k3 k4 k5 o
  generalize ((w2.setCell ⟨w.heap.size + 1 + 1 + 1, 0, none⟩ (.int .i64 (srX x y z t d))).setCell ⟨w.heap.size + 1 + 1 + 1, 1, none⟩ (.int .i64 (srY x y z t d))).setCell ⟨w.heap.size + 1 + 1 + 1, 2, none⟩ (.int .i64 (srZ x y z t d)) = W at *
  generalize srX x y z t d = x' at *
  generalize srY x y z t d = y' at *
  generalize srZ x y z t d = z' at *
  have hF : ∀ bb ww, doB W (w.heap.size + 1 + 1) x' y' z' bb ww → DoR w.heap.size b ww x' y' z' t := fun bb ww hb => do_facts hC h1 hlt hb
  have hD : ∀ ww, doB W (w.heap.size + 1 + 1) x' y' z' false ww → DoE w.heap.size ww := fun ww hb => do_place hC hb
  refine wp_region_calm (oneC (doB W (w.heap.size + 1 + 1) x' y' z') 13) (by kernel_rfl) (by kernel_rfl) (Below.refl _ _).drew ?_
  have HF := Lib.hid hF
  have HD := Lib.hid hD
  clear hF hD
  iterate 10 (refine calm_read rfl rfl ?_; apply Exists.intro; refine ⟨fun bb ww hww => ?_, ?_⟩; ((have m := HF.out bb ww hww); (obtain ⟨m0, m1, m2, m3, mc⟩ := m); unfold calmAt calmUpon; go_simp; rfl); simp only [Act.put, List.setIfInBounds_toArray, List.set_cons_succ, List.set_cons_zero])
  refine calm_read rfl rfl ?_
  apply Exists.intro
  refine ⟨fun bb ww hww => ?_, ?_⟩
  · have m := HF.out bb ww hww
    obtain ⟨m0, m1, m2, m3, mc⟩ := m
    unfold calmAt calmUpon
    go_simp
    exact (agrees_any mc o2 t).mono fun e w' ⟨he, hb⟩ => ⟨he, do_on hww hb⟩
  simp only [Act.put, List.setIfInBounds_toArray, List.set_cons_succ, List.set_cons_zero]
  iterate 2 (refine calm_read rfl rfl ?_; apply Exists.intro; refine ⟨fun bb ww hww => ?_, ?_⟩; ((have m := HF.out bb ww hww); (obtain ⟨m0, m1, m2, m3, mc⟩ := m); unfold calmAt calmUpon; go_simp; rfl); simp only [Act.put, List.setIfInBounds_toArray, List.set_cons_succ, List.set_cons_zero])
  refine calm_write rfl ?_
  apply Exists.intro
  refine ⟨fun ww hww => ?_, ?_⟩
  · have m := HD.out ww hww
    obtain ⟨m0, m1, m2, m3, m4, m5⟩ := m
    have hw' := do_write (x := x') (y := y') (z := z') hww
    unfold calmAt calmUpon
    go_simp
    exact ⟨rfl, hw'⟩
  simp only [Act.put]
  iterate 1 (refine calm_read rfl rfl ?_; apply Exists.intro; refine ⟨fun bb ww hww => ?_, ?_⟩; ((have m := HF.out bb ww hww); (obtain ⟨m0, m1, m2, m3, mc⟩ := m); unfold calmAt calmUpon; go_simp; rfl); simp only [Act.put, List.setIfInBounds_toArray, List.set_cons_succ, List.set_cons_zero])
  refine calm_nil ?_
  intro w5 hw5
  obtain ⟨⟨q0, q1, q2⟩, q3, q4⟩ := do_end hC h1 hlt hU hw5
  clear HF HD hw5
  go_wp2_with fail
  exact bodyPost_ret (v := .tuple #[.pointer (some ⟨b, 0, none⟩), .agg #[.int .i64 x', .int .i64 y', .int .i64 z'], .bool true]) (by simp [results, Try.results14, go_sem, q0, q1, q2]) rfl ⟨rfl, o2, q3, q4, .inl rfl⟩

set_option maxRecDepth 100000 in
set_option maxHeartbeats 1000000 in
theorem do_other {w : World} {b : Nat} {x y z : Int} (h : Clk w b x y z) (o : Okc x y z) (a t d : Int) (a0 : (a == 0) = false) (a1 : (a == 1) = false) (a2 : (a == 2) = false) :
    Calls Try.prog 14 #[.pointer (some ⟨b, 0, none⟩), .agg #[.int .i64 x, .int .i64 y, .int .i64 z], .agg #[.int .i64 a, .int .i64 t, .int .i64 d]] w (DoQ b w b x y z) := by
  have hb0 := doW_below w x y z a t d
  have h0 := h.below hb0
  have hlt := h.lt
  have hC := doW_cells w x y z a t d
  go_enter Try.func14, Try.ntmps14
  go_wp2_with fail
  change Code.wp _ _ _ _ (doW w x y z a t d)
  have h1 := h0
  have hU := But.of_below (b := b) hb0
  have o2 := o
  clear hb0 h0 o h
  generalize doW w x y z a t d = W at *
  have hF : ∀ bb ww, doB W (w.heap.size + 1 + 1) x y z bb ww → DoR w.heap.size b ww x y z t := fun bb ww hb => do_facts hC h1 hlt hb
  have hD : ∀ ww, doB W (w.heap.size + 1 + 1) x y z false ww → DoE w.heap.size ww := fun ww hb => do_place hC hb
  refine wp_region_calm (oneC (doB W (w.heap.size + 1 + 1) x y z) 13) (by kernel_rfl) (by kernel_rfl) (Below.refl _ _).drew ?_
  have HF := Lib.hid hF
  have HD := Lib.hid hD
  clear hF hD
  iterate 10 (refine calm_read rfl rfl ?_; apply Exists.intro; refine ⟨fun bb ww hww => ?_, ?_⟩; ((have m := HF.out bb ww hww); (obtain ⟨m0, m1, m2, m3, mc⟩ := m); unfold calmAt calmUpon; go_simp; rfl); simp only [Act.put, List.setIfInBounds_toArray, List.set_cons_succ, List.set_cons_zero])
  refine calm_read rfl rfl ?_
  apply Exists.intro
  refine ⟨fun bb ww hww => ?_, ?_⟩
  · have m := HF.out bb ww hww
    obtain ⟨m0, m1, m2, m3, mc⟩ := m
    unfold calmAt calmUpon
    go_simp
    exact (agrees_any mc o2 t).mono fun e w' ⟨he, hb⟩ => ⟨he, do_on hww hb⟩
  simp only [Act.put, List.setIfInBounds_toArray, List.set_cons_succ, List.set_cons_zero]
  iterate 2 (refine calm_read rfl rfl ?_; apply Exists.intro; refine ⟨fun bb ww hww => ?_, ?_⟩; ((have m := HF.out bb ww hww); (obtain ⟨m0, m1, m2, m3, mc⟩ := m); unfold calmAt calmUpon; go_simp; rfl); simp only [Act.put, List.setIfInBounds_toArray, List.set_cons_succ, List.set_cons_zero])
  refine calm_write rfl ?_
  apply Exists.intro
  refine ⟨fun ww hww => ?_, ?_⟩
  · have m := HD.out ww hww
    obtain ⟨m0, m1, m2, m3, m4, m5⟩ := m
    have hw' := do_write (x := x) (y := y) (z := z) hww
    unfold calmAt calmUpon
    go_simp
    exact ⟨rfl, hw'⟩
  simp only [Act.put]
  iterate 1 (refine calm_read rfl rfl ?_; apply Exists.intro; refine ⟨fun bb ww hww => ?_, ?_⟩; ((have m := HF.out bb ww hww); (obtain ⟨m0, m1, m2, m3, mc⟩ := m); unfold calmAt calmUpon; go_simp; rfl); simp only [Act.put, List.setIfInBounds_toArray, List.set_cons_succ, List.set_cons_zero])
  refine calm_nil ?_
  intro w5 hw5
  obtain ⟨⟨q0, q1, q2⟩, q3, q4⟩ := do_end hC h1 hlt hU hw5
  clear HF HD hw5
  go_wp2_with fail
  exact bodyPost_ret (v := .tuple #[.pointer (some ⟨b, 0, none⟩), .agg #[.int .i64 x, .int .i64 y, .int .i64 z], .bool true]) (by simp [results, Try.results14, go_sem, q0, q1, q2]) rfl ⟨rfl, o2, q3, q4, .inl rfl⟩

set_option maxRecDepth 100000 in
set_option maxHeartbeats 1000000 in
theorem do_copy {w : World} {b : Nat} {x y z : Int} (h : Clk w b x y z) (o : Okc x y z) (t d : Int) :
    Calls Try.prog 14 #[.pointer (some ⟨b, 0, none⟩), .agg #[.int .i64 x, .int .i64 y, .int .i64 z], .agg #[.int .i64 2, .int .i64 t, .int .i64 d]] w (DoQ b w (doW w x y z 2 t d).heap.size x y z) := by
  have hb0 := doW_below w x y z 2 t d
  have h0 := h.below hb0
  have hlt := h.lt
  have hC := doW_cells w x y z 2 t d
  have o2 := o
  go_enter Try.func14, Try.ntmps14
  go_wp2_with fail
  refine (copy_any h0).mono ?_
  rintro e w1 ⟨rfl, he⟩
  replace he : (doW w x y z 2 t d).alloc (.cells #[.int .i64 x, .int .i64 y, .int .i64 z, .bool true] 54) = w1 := he
  obtain ⟨hc1, hbc, hbne⟩ := copy_clk h0 he
  have hsz := doW_size w x y z 2 t d
  replace hC := hC.but (But.of_below (b := b) hbc) hlt
  have h1b := h0.below hbc
  have hU := (But.of_below (b := b) hb0).trans (But.of_below (b := b) hbc)
  have hne : (doW w x y z 2 t d).heap.size ≠ w.heap.size + 1 + 1 := by omega
  have hcl : w.heap.size ≤ (doW w x y z 2 t d).heap.size := by omega
  have hbc2 : (doW w x y z 2 t d).heap.size ≠ b := Ne.symm hbne
  generalize hcE : (doW w x y z 2 t d).heap.size = c at *
  have hcl' : ∀ q : Nat, c = q → c = q := fun q h => h
  clear hcE hcl' hsz he hbc hb0 h0 h
  have k0 := hC.r0
  go_wp2_with fail
  refine (step_any h1b o x 1).mono ?_
  rintro e w2 ⟨rfl, h2, hu2⟩
  replace hC := hC.but hu2 hlt
  replace hc1 := hu2.clk hc1 hbc2
  replace hU := hU.trans hu2
  have o3 := o.step x 1
  clear k0 hu2 h1b
  have k0 := hC.r0
  go_wp2_with fail
  refine (set_any h2 o3 x 7).mono ?_
  rintro e w3 ⟨rfl, h3, hu3⟩
  replace hC := hC.but hu3 hlt
  replace hc1 := hu3.clk hc1 hbc2
  replace hU := hU.trans hu3
  clear k0 hu3 h2 h3 o3
  have h1 := hc1
  obtain ⟨W, rfl⟩ : ∃ W : World, W = w3 := ⟨_, rfl⟩
  go_wp2_with fail
  have hF : ∀ bb ww, doB W (w.heap.size + 1 + 1) x y z bb ww → DoR2 w.heap.size c ww x y z t := fun bb ww hb => do_facts2 hC h1 hne hb
  have hD : ∀ ww, doB W (w.heap.size + 1 + 1) x y z false ww → DoE w.heap.size ww := fun ww hb => do_place hC hb
  refine wp_region_calm (oneC (doB W (w.heap.size + 1 + 1) x y z) 12) (by kernel_rfl) (by kernel_rfl) (Below.refl _ _).drew ?_
  have HF := Lib.hid hF
  have HD := Lib.hid hD
  clear hF hD
  iterate 9 (refine calm_read rfl rfl ?_; apply Exists.intro; refine ⟨fun bb ww hww => ?_, ?_⟩; ((have m := HF.out bb ww hww); (obtain ⟨m0, m1, m2, m3, mc⟩ := m); unfold calmAt calmUpon; go_simp; rfl); simp only [Act.put, List.setIfInBounds_toArray, List.set_cons_succ, List.set_cons_zero])
  refine calm_read rfl rfl ?_
  apply Exists.intro
  refine ⟨fun bb ww hww => ?_, ?_⟩
  · have m := HF.out bb ww hww
    obtain ⟨m0, m1, m2, m3, mc⟩ := m
    unfold calmAt calmUpon
    go_simp
    exact (agrees_any mc o2 t).mono fun e w' ⟨he, hb⟩ => ⟨he, do_on hww hb⟩
  simp only [Act.put, List.setIfInBounds_toArray, List.set_cons_succ, List.set_cons_zero]
  iterate 2 (refine calm_read rfl rfl ?_; apply Exists.intro; refine ⟨fun bb ww hww => ?_, ?_⟩; ((have m := HF.out bb ww hww); (obtain ⟨m0, m1, m2, m3, mc⟩ := m); unfold calmAt calmUpon; go_simp; rfl); simp only [Act.put, List.setIfInBounds_toArray, List.set_cons_succ, List.set_cons_zero])
  refine calm_write rfl ?_
  apply Exists.intro
  refine ⟨fun ww hww => ?_, ?_⟩
  · have m := HD.out ww hww
    obtain ⟨m0, m1, m2, m3, m4, m5⟩ := m
    have hw' := do_write (x := x) (y := y) (z := z) hww
    unfold calmAt calmUpon
    go_simp
    exact ⟨rfl, hw'⟩
  simp only [Act.put]
  iterate 1 (refine calm_read rfl rfl ?_; apply Exists.intro; refine ⟨fun bb ww hww => ?_, ?_⟩; ((have m := HF.out bb ww hww); (obtain ⟨m0, m1, m2, m3, mc⟩ := m); unfold calmAt calmUpon; go_simp; rfl); simp only [Act.put, List.setIfInBounds_toArray, List.set_cons_succ, List.set_cons_zero])
  refine calm_nil ?_
  intro w5 hw5
  obtain ⟨⟨q0, q1, q2⟩, q3, q4⟩ := do_end2 hC h1 hne hU hw5
  clear HF HD hw5
  go_wp2_with fail
  exact bodyPost_ret (v := .tuple #[.pointer (some ⟨c, 0, none⟩), .agg #[.int .i64 x, .int .i64 y, .int .i64 z], .bool true]) (by simp [results, Try.results14, go_sem, q0, q1, q2]) rfl ⟨rfl, o2, q3, q4, .inr hcl⟩

/-- do, whatever the act: what it answers is one and the same for one world. -/
theorem do_any {w : World} {b : Nat} {x y z : Int} (h : Clk w b x y z) (o : Okc x y z) (a t d : Int) :
    ∃ c x' y' z', Calls Try.prog 14 #[.pointer (some ⟨b, 0, none⟩), .agg #[.int .i64 x, .int .i64 y, .int .i64 z], .agg #[.int .i64 a, .int .i64 t, .int .i64 d]] w (DoQ b w c x' y' z') := by
  by_cases a0 : a = 0
  · subst a0; exact ⟨_, _, _, _, do_step h o t d⟩
  · by_cases a1 : a = 1
    · subst a1; exact ⟨_, _, _, _, do_set h o t d⟩
    · by_cases a2 : a = 2
      · subst a2; exact ⟨_, _, _, _, do_copy h o t d⟩
      · exact ⟨_, _, _, _, do_other h o a t d (by simpa using a0) (by simpa using a1) (by simpa using a2)⟩
end Go.Proofs.Ytjdefiiinameiaa
