/- The reference's Inject. -/
import Derived.Test.YtiindnmelegkgaaR9
import Derived.Test.YtiindnmelegkgaaTie
section
namespace Go.Proofs.Ytiindnmelegkgaa
open Go.RowKit
set_option linter.unusedSimpArgs false
set_option linter.unusedVariables false

def validA (p : APk) : Bool := hostB p.frm && hostB p.to && decide (p.bs.length ≤ 65536)
theorem validA_abs (p : Pk) : validA p.abs = validB p := rfl
def RAbs.count (A : RAbs) : Nat := (A.all.filter fun x => !x.gone).length
theorem count_abs (N : RNet) : N.abs.count = countL N.all := by
  unfold RAbs.count countL RNet.abs
  rw [List.filter_map, List.length_map]
  rfl
def RAbs.put (A : RAbs) (p : APk) (src kind frm : Int) : RAbs := ⟨A.all ++ [⟨p.frm, p.to, p.bs, src, false⟩], A.hist, A.evs ++ [⟨kind, (A.all.length : Nat), frm⟩], A.blk⟩
theorem abs_len (N : RNet) : N.abs.all.length = N.all.length := by simp [RNet.abs]
/-- What a function that puts a packet in flight hands back. -/
def ROut1 (w : World) (N : RNet) (A' : RAbs) (x er : Int) (e : Ending) (w' : World) : Prop := ∃ N', e = .returned (.tuple #[N'.val, .int .i64 x, .int .i64 er]) ∧ RNext w w' N N' ∧ N'.abs = A'
def ROut0 (w : World) (N : RNet) (A' : RAbs) (er : Int) (e : Ending) (w' : World) : Prop := ∃ N', e = .returned (.tuple #[N'.val, .int .i64 er]) ∧ RNext w w' N N' ∧ N'.abs = A'
theorem RNext.refl {w w' : World} {N : RNet} (R : ROk w N) (hb : Below w.heap.size w w') : RNext w w' N N := ⟨R.below hb, hb, fun b h => .inl h⟩

def RAbs.inject (A : RAbs) (p : APk) : RAbs × Int × Int := if validA p = false then (A, 0, 2) else if 64 ≤ A.count then (A, 0, 7) else (A.put p (-1) 8 (-1), (A.all.length : Nat), 0)

theorem rnext_of {w W0 W1 : World} {N N1 : RNet} (b0 : Below w.heap.size w W0) (h : RNext W0 W1 N N1) : RNext w W1 N N1 :=
  ⟨h.ok, b0.trans (h.below.mono b0.size), fun b hb => (h.blocks b hb).imp id (fun h => Nat.le_trans b0.size h)⟩
theorem rnext_stays {w W1 W2 : World} {N N1 : RNet} (R : ROk w N) (h : RNext w W1 N N1) (hb : Below w.heap.size w W2) (he : ∀ b, RB N1 b → W2.heap[b]? = W1.heap[b]?) : RNext w W2 N N1 :=
  ⟨h.ok.stays he, hb, h.blocks⟩

theorem cells4 {W : World} {b : Nat} {t : TypeId} {a0 a1 a2 a3 : Value} (h : W.heap[b]? = some (.cells #[a0, a1, a2, a3] t (0, 0))) :
    W.cell? ⟨b, 0, none⟩ = some a0 ∧ W.cell? ⟨b, 1, none⟩ = some a1 ∧ W.cell? ⟨b, 2, none⟩ = some a2 ∧ W.cell? ⟨b, 3, none⟩ = some a3 ∧ ∀ i, W.frozen? ⟨b, i, none⟩ = false := by
  refine ⟨?_, ?_, ?_, ?_, frozen_blk h⟩ <;> (rw [cell_of_row _ _ _ _ _ _ h]; rfl)
theorem cells3 {W : World} {b : Nat} {t : TypeId} {a0 a1 a2 : Value} (h : W.heap[b]? = some (.cells #[a0, a1, a2] t (0, 0))) :
    W.cell? ⟨b, 0, none⟩ = some a0 ∧ W.cell? ⟨b, 1, none⟩ = some a1 ∧ W.cell? ⟨b, 2, none⟩ = some a2 ∧ ∀ i, W.frozen? ⟨b, i, none⟩ = false := by
  refine ⟨?_, ?_, ?_, frozen_blk h⟩ <;> (rw [cell_of_row _ _ _ _ _ _ h]; rfl)
theorem cells4a {W : World} {b : Nat} {t : TypeId} {a0 a1 a2 a3 : Value} (h : W.heap[b]? = some (.cells #[a0, a1, a2, a3] t (0, 0))) :
    (∀ o, (W.alloc o).cell? ⟨b, 0, none⟩ = some a0) ∧ (∀ o, (W.alloc o).cell? ⟨b, 1, none⟩ = some a1) ∧ (∀ o, (W.alloc o).cell? ⟨b, 2, none⟩ = some a2) ∧ (∀ o, (W.alloc o).cell? ⟨b, 3, none⟩ = some a3) ∧ ∀ o i, (W.alloc o).frozen? ⟨b, i, none⟩ = false := by
  have hl := (Array.getElem?_eq_some_iff.1 h).1
  have h' : ∀ o, (W.alloc o).heap[b]? = some (.cells #[a0, a1, a2, a3] t (0, 0)) := fun o => (old_at hl).trans h
  refine ⟨fun o => ?_, fun o => ?_, fun o => ?_, fun o => ?_, fun o => frozen_blk (h' o)⟩ <;> (rw [cell_of_row _ _ _ _ _ _ (h' o)]; rfl)
theorem old_box {W W' : World} {b n : Nat} {o : Obj} (h : W.heap[b]? = some o) (hb : Below n W W') (hl : b < n) : W'.heap[b]? = some o := (hb.block b hl).trans h

set_option maxHeartbeats 2000000 in
set_option maxRecDepth 100000 in
theorem rinject_any (N : RNet) (w : World) (R : ROk w N) (S : RSmall N) (p : Pk) (hr : rdB w p.bv p.bs) (hlt : N.all.length < 1000000) :
    Calls Try.prog 63 #[N.val, p.val] w (ROut1 w N (N.abs.inject p.abs).1 (N.abs.inject p.abs).2.1 (N.abs.inject p.abs).2.2) := by
  obtain ⟨W0, hW0⟩ : ∃ W0, W0 = ((w.alloc (.cells #[N.va, N.vh, N.ve, N.vb] 64)).alloc (.cells #[.string p.frm, .string p.to, p.bv] 35)).alloc (.cells #[.slice none 0 0, .slice none 0 0, .slice none 0 0, .slice none 0 0] 64) := ⟨_, rfl⟩
  have b0 : Below w.heap.size w W0 := by rw [hW0]; exact (((Below.refl _ _).alloc (Nat.le_refl _) _).alloc (by simp) _).alloc (by simp; omega) _
  have z0 : w.heap.size + 3 = W0.heap.size := by rw [hW0]; simp
  have x0 : W0.heap[w.heap.size]? = some (.cells #[N.va, N.vh, N.ve, N.vb] 64 (0, 0)) := by rw [hW0, old_at (by simp; omega), old_at (by simp)]; exact new_at rfl
  have x1 : W0.heap[w.heap.size + 1]? = some (.cells #[.string p.frm, .string p.to, p.bv] 35 (0, 0)) := by rw [hW0, old_at (by simp)]; exact new_at (by simp)
  have x2 : W0.heap[w.heap.size + 2]? = some (.cells #[.slice none 0 0, .slice none 0 0, .slice none 0 0, .slice none 0 0] 64 (0, 0)) := by rw [hW0]; exact new_at (by simp)
  have HV := Lib.hid (rvalid_any p W0 (hr.below b0))
  have HR := Lib.hid R
  have HS := Lib.hid S
  have HB0 := Lib.hid b0
  have HP := Lib.hid hr
  have hfm := R.forms
  obtain ⟨pa, pn, pc, hpv, -⟩ := hr.lt
  have HPV := Lib.hid hpv
  have HW0 := Lib.hid hW0
  have HZ0 := Lib.hid z0
  have hcnt := count_abs N
  have habs : Hid (N.abs.all.length = N.all.length) := Lib.hid (abs_len N)
  unfold RAbs.inject
  rw [validA_abs, hcnt]
  have HRET : ∀ (W2 : World) (er : Int), Below w.heap.size w W2 → ROut1 w N N.abs 0 er (.returned (.tuple #[N.val, .int .i64 0, .int .i64 er])) W2 := fun W2 er hb => ⟨N, rfl, RNext.refl R hb, rfl⟩
  have HT := Lib.hid HRET
  have HN : Hid (∀ W1, Below W0.heap.size W0 W1 → Calls Try.prog 30 #[N.val] W1 fun e w' => e = .returned (.int .i64 (countL N.all : Nat)) ∧ Below W1.heap.size W1 w') := Lib.hid fun W1 hb => count_any N W1 ((R.below b0).below hb) S
  have HL : Hid (∀ W1, Below W0.heap.size W0 W1 → validB p = true → Calls Try.prog 73 #[N.val, .int .i64 8, p.val, .int .i64 (-1), .int .i64 (-1)] W1 fun e w' => ∃ N', e = .returned (.tuple #[N'.val, .int .i64 (N.all.length : Nat)]) ∧ RLaunched W1 w' N p (-1) 8 (-1) N') := Lib.hid fun W1 hb hv => rlaunched_any N W1 ((R.below b0).below hb) S p ((hr.below b0).below hb) hv hlt 8 (-1) (-1)
  obtain ⟨cn, hcn⟩ : ∃ cn, countL N.all = cn := ⟨_, rfl⟩
  have hcl : cn ≤ 1000000 := by have := countL_le N.all; have := S.all; omega
  rw [hcn] at HN ⊢
  obtain ⟨bn, hbn⟩ : ∃ bn, N.all.length = bn := ⟨_, rfl⟩
  rw [hbn] at HL hlt habs
  rw [habs.out]
  obtain ⟨A, hA⟩ : ∃ A, N.abs = A := ⟨_, rfl⟩
  have HA := Lib.hid hA
  have HPUT : Hid (RAbs.put A p.abs (-1) 8 (-1) = ⟨N.abs.all ++ [⟨p.frm, p.to, p.bs, -1, false⟩], N.abs.hist, N.evs ++ [⟨8, (N.all.length : Nat), -1⟩], N.blk⟩) := Lib.hid (by rw [← hA]; unfold RAbs.put; rw [abs_len]; rfl)
  rw [hA] at HT ⊢
  clear R S b0 hr hW0 z0 hA HRET hcnt habs hcn
  unfold RNet.val Pk.val at *
  rw [hpv] at x1 HW0 HL HV ⊢
  clear hpv
  obtain ⟨all0, hist0, evs0, blk0, va0, vh0, ve0, vb0⟩ := N
  dsimp only at *
  obtain ⟨⟨a1, n1, k1, rfl⟩, ⟨a2, n2, k2, rfl⟩, ⟨a3, n3, k3, rfl⟩, ⟨a4, n4, k4, rfl⟩⟩ := hfm
  have hz0 := HZ0.out
  obtain ⟨j0, j1, j2, fj⟩ := cells3 x1
  cases hv : validB p
  · rw [if_pos rfl]
    dsimp only
    go_enter Try.func63, Try.ntmps63
    go_wp2_with fail
    rw [← HW0.out]
    refine HV.out.mono ?_
    rintro e W1 ⟨rfl, hb1⟩
    rw [hv]
    have y0 := old_box x0 hb1 (by omega)
    have y2 := old_box x2 hb1 (by omega)
    obtain ⟨i0, i1, i2, i3, fi⟩ := cells4 y0
    obtain ⟨l0, l1, l2, l3, fl⟩ := cells4 y2
    have HB1 := Lib.hid hb1
    clear j0 j1 j2 fj hb1
    go_wp2_with fail
    exact bodyPost_ret (v := .tuple #[.agg #[.slice a1 n1 k1, .slice a2 n2 k2, .slice a3 n3 k3, .slice a4 n4 k4], .int .i64 0, .int .i64 2]) (by simp [results, Try.results63, go_sem, l0, l1, l2, l3]) rfl
      (HT.out _ 2 ((HB0.out.trans (HB1.out.mono (by omega))).trans (box4_below (by omega) _ _ _ _)))
  · rw [if_neg (by decide)]
    by_cases hc : 64 ≤ cn
    · rw [if_pos hc]
      dsimp only
      go_enter Try.func63, Try.ntmps63
      go_wp2_with fail
      rw [← HW0.out]
      refine HV.out.mono ?_
      rintro e W1 ⟨rfl, hb1⟩
      rw [hv]
      have y0 := old_box x0 hb1 (by omega)
      have y2 := old_box x2 hb1 (by omega)
      have HNC := Lib.hid (HN.out W1 hb1)
      obtain ⟨i0, i1, i2, i3, fi⟩ := cells4 y0
      have HB1 := Lib.hid hb1
      have hz1 := hb1.size
      clear j0 j1 j2 fj hb1
      go_wp2_with fail
      refine HNC.out.mono ?_
      rintro e W2 ⟨rfl, hb2⟩
      have y0 := old_box y0 hb2 (by omega)
      have y2 := old_box y2 hb2 (by omega)
      clear i0 i1 i2 i3 fi
      obtain ⟨i0, i1, i2, i3, fi⟩ := cells4 y0
      obtain ⟨l0, l1, l2, l3, fl⟩ := cells4 y2
      have HB2 := Lib.hid hb2
      clear hb2
      go_wp2_with fail
      exact bodyPost_ret (v := .tuple #[.agg #[.slice a1 n1 k1, .slice a2 n2 k2, .slice a3 n3 k3, .slice a4 n4 k4], .int .i64 0, .int .i64 7]) (by simp [results, Try.results63, go_sem, l0, l1, l2, l3]) rfl
        (HT.out _ 7 ((HB0.out.trans ((HB1.out.trans (HB2.out.mono hz1)).mono (by omega))).trans (box4_below (by omega) _ _ _ _)))
    · rw [if_neg hc]
      dsimp only
      go_enter Try.func63, Try.ntmps63
      go_wp2_with fail
      rw [← HW0.out]
      refine HV.out.mono ?_
      rintro e W1 ⟨rfl, hb1⟩
      rw [hv]
      have y0 := old_box x0 hb1 (by omega)
      have y1 := old_box x1 hb1 (by omega)
      have y2 := old_box x2 hb1 (by omega)
      have HNC := Lib.hid (HN.out W1 hb1)
      obtain ⟨i0, i1, i2, i3, fi⟩ := cells4 y0
      have HB1 := Lib.hid hb1
      have hz1 := hb1.size
      clear j0 j1 j2 fj hb1
      go_wp2_with fail
      refine HNC.out.mono ?_
      rintro e W2 ⟨rfl, hb2⟩
      have y0 := old_box y0 hb2 (by omega)
      have y1 := old_box y1 hb2 (by omega)
      have y2 := old_box y2 hb2 (by omega)
      clear i0 i1 i2 i3 fi
      obtain ⟨i0, i1, i2, i3, fi⟩ := cells4 y0
      obtain ⟨j0, j1, j2, fj⟩ := cells3 y1
      have hz2 := hb2.size
      have b02 : Below W0.heap.size W0 W2 := HB1.out.trans (hb2.mono hz1)
      have HLC := Lib.hid (HL.out W2 b02 hv)
      have HB2 := Lib.hid b02
      clear hb2 b02
      go_wp2_with fail
      refine HLC.out.mono ?_
      rintro e W3 ⟨N3, rfl, T3⟩
      have hz3 := T3.1.below.size
      have y2 := old_box y2 T3.1.below (by omega)
      have hfm3 := T3.1.ok.forms
      have END : Hid (∀ W4, Below w.heap.size w W4 → (∀ b, b < W3.heap.size → b ≠ w.heap.size + 2 → W4.heap[b]? = W3.heap[b]?) → ROut1 w ⟨all0, hist0, evs0, blk0, .slice a1 n1 k1, .slice a2 n2 k2, .slice a3 n3 k3, .slice a4 n4 k4⟩ (RAbs.put A p.abs (-1) 8 (-1)) (bn : Nat) 0 (.returned (.tuple #[N3.val, .int .i64 (bn : Nat), .int .i64 0])) W4) := Lib.hid fun W4 hb4 h4 => by
        have NX := rnext_of HB0.out (rnext_of HB2.out T3.1)
        refine ⟨N3, rfl, rnext_stays HR.out NX hb4 (fun b hb => h4 b (NX.ok.lt hb) ?_), ?_⟩
        · have h5 := T3.1.blocks b hb
          have : RB _ b → b < w.heap.size := HR.out.lt
          rcases h5 with h5 | h5
          · have := this h5; omega
          · omega
        · rw [HPUT.out]; exact T3.2
      have HB3 := Lib.hid (HB0.out.trans ((HB2.out.trans (T3.1.below.mono (by omega))).mono (by omega)))
      clear T3 i0 i1 i2 i3 fi j0 j1 j2 fj
      obtain ⟨all3, hist3, evs3, blk3, va3, vh3, ve3, vb3⟩ := N3
      dsimp only at *
      obtain ⟨⟨q1, q2, q3, rfl⟩, ⟨q4, q5, q6, rfl⟩, ⟨q7, q8, q9, rfl⟩, ⟨q10, q11, q12, rfl⟩⟩ := hfm3
      obtain ⟨l0, l1, l2, l3, fl⟩ := cells4a y2
      go_wp2_with fail
      exact bodyPost_ret (v := .tuple #[.agg #[.slice q1 q2 q3, .slice q4 q5 q6, .slice q7 q8 q9, .slice q10 q11 q12], .int .i64 (bn : Nat), .int .i64 0]) (by simp [results, Try.results63, go_sem, l0, l1, l2, l3]) rfl
        (END.out _ ((HB3.out.alloc HB3.out.size _).trans (box4_below (by omega) _ _ _ _)) (fun b hb hne => (box4_other _ _ _ _ hne).trans (old_at hb)))
end Go.Proofs.Ytiindnmelegkgaa
end
/- The reference's Drop, Redirect. -/
section
namespace Go.Proofs.Ytiindnmelegkgaa
open Go.RowKit
set_option linter.unusedSimpArgs false
set_option linter.unusedVariables false

theorem flat_setR {α : Type} (f : α → List Value) (s : Nat) (hf : ∀ x, (f x).length = s) : ∀ (l : List α) (i : Nat) (x' : α) (j : Nat) (v : Value) (x : α), l[i]? = some x → j < s → f x' = (f x).set j v → (l.set i x').flatMap f = (l.flatMap f).set (i * s + j) v
  | [], i, x', j, v, x, h, _, _ => by simp at h
  | y :: l, 0, x', j, v, x, h, hj, e => by
    simp at h
    subst h
    simp only [List.set_cons_zero, List.flatMap_cons, Nat.zero_mul, Nat.zero_add]
    rw [List.set_append_left _ _ (by rw [hf]; exact hj), e]
  | y :: l, i + 1, x', j, v, x, h, hj, e => by
    simp at h
    simp only [List.set_cons_succ, List.flatMap_cons]
    rw [flat_setR f s hf l i x' j v x h hj e, List.set_append_right _ _ (by rw [hf, Nat.succ_mul]; omega), hf, show (i + 1) * s + j - s = i * s + j by rw [Nat.succ_mul]; omega]

/-- A cell of an element is set. -/
theorem rset {W : World} {N : RNet} (R : ROk W N) {k : Nat} {x x' : RFl} (hx : N.all[k]? = some x) {g c : Nat} (hva : N.va = .slice (some ⟨g, 0, none⟩) N.all.length c) (j : Nat) (hj : j < 5) (v : Value) (hc : x'.cells = x.cells.set j v) (hbv : x'.p.bv = x.p.bv) (hbs : x'.p.bs = x.p.bs) (hv : validB x'.p = true) :
    ROk (W.setCell ⟨g, k * 5 + j, none⟩ v) { N with all := N.all.set k x' } := by
  have hkl := (List.getElem?_eq_some_iff.1 hx).1
  have hxm := List.mem_of_getElem? hx
  have ra := R.a
  rw [hva] at ra
  have ne : ∀ {v' : Value} {e : TypeId} {size n : Nat} {xs : List Value}, W.ownsRow 0 e size v' n xs → e ≠ 69 → (W.setCell ⟨g, k * 5 + j, none⟩ v).ownsRow 0 e size v' n xs := fun h hne => row_stays h fun b hb => set_other (fun e => by
    have e' : b = g := e
    subst e'
    exact rows_ne h ra hne hb rfl)
  have hmem : ∀ y, y ∈ N.all.set k x' → y = x' ∨ y ∈ N.all := fun y hy => by
    rcases List.mem_or_eq_of_mem_set hy with h | h
    · exact .inr h
    · exact .inl h
  constructor
  · show (W.setCell ⟨g, k * 5 + j, none⟩ v).ownsRow 0 69 5 N.va (N.all.set k x').length ((N.all.set k x').flatMap RFl.cells)
    rw [flat_setR RFl.cells 5 (fun _ => rfl) N.all k x' j v x hx hj hc, hva, List.length_set]
    exact row_set ra (k * 5 + j) v (by omega)
  · exact ne R.h (by decide)
  · exact ne R.e (by decide)
  · exact ne R.b (by decide)
  · intro y hy
    rcases hmem y hy with rfl | hy
    · rw [hbv, hbs]; exact ne (R.ab x hxm) (by decide)
    · exact ne (R.ab y hy) (by decide)
  · exact fun q hq => ne (R.hb q hq) (by decide)
  · intro y hy
    rcases hmem y hy with rfl | hy
    · exact hv
    · exact R.aok y hy
  · exact R.hok

/-- After own, a change, noted. -/
theorem mod_end {w Wf W1 W3 W4 W5 : World} {N N1 N2 N3 : RNet} {ev : Ev} (R : ROk w N) (bf : Below w.heap.size w Wf) (O : ROwned Wf W1 N N1) (h1 : N2.va = N1.va) (h2 : N2.vh = N1.vh) (h3 : N2.ve = N1.ve) (h4 : N2.vb = N1.vb) (h5 : N2.hist = N1.hist)
    (h6 : ∀ x ∈ N2.all, ∃ y ∈ N1.all, x.p.bv = y.p.bv) (b3 : Below w.heap.size W1 W3) (T : RNoted W3 W4 N2 ev N3) (c : Nat) (hc1 : w.heap.size ≤ c) (hc2 : c < Wf.heap.size) (k5 : ∀ b, b < W4.heap.size → b ≠ c → W5.heap[b]? = W4.heap[b]?) (b5 : Below w.heap.size W4 W5) : RNext w W5 N N3 := by
  obtain ⟨R4, e1, e2, e3, e4, e5, e6, e7, e8, g4⟩ := T
  have zf := bf.size
  have z1 := O.below.size
  have z3 := b3.size
  have blocks : ∀ b, RB N3 b → (RB N b ∨ w.heap.size ≤ b) ∧ b ≠ c := fun b hb => by
    have old : RB N b → b ≠ c := fun h => by have := R.lt h; omega
    rcases hb with h | h | h | h | ⟨x, hx, h⟩ | ⟨x, hx, h⟩
    · rw [e5, h1] at h
      have := O.fa b h; exact ⟨.inr (by omega), by omega⟩
    · rw [e6, h2, O.vh] at h
      have h' : RB N b := .inr (.inl h)
      exact ⟨.inl h', old h'⟩
    · rcases e8 b h with h' | h'
      · rw [h3] at h'; have := O.fe b h'; exact ⟨.inr (by omega), by omega⟩
      · exact ⟨.inr (by omega), by omega⟩
    · rw [e7, h4, O.vb] at h
      have h' : RB N b := .inr (.inr (.inr (.inl h)))
      exact ⟨.inl h', old h'⟩
    · rw [e1] at hx
      obtain ⟨y, hy, e⟩ := h6 x hx
      rw [e] at h
      have := O.fb y hy b h; exact ⟨.inr (by omega), by omega⟩
    · rw [e2, h5, O.hist] at hx
      have h' : RB N b := .inr (.inr (.inr (.inr (.inr ⟨x, hx, h⟩))))
      exact ⟨.inl h', old h'⟩
  have b1 : Below w.heap.size w W3 := (bf.trans (O.below.mono (by omega))).trans b3
  have b4 : Below w.heap.size w W4 := b1.grown g4 (by omega) (fun k e => by rw [h3] at e; have := O.fe k e; omega)
  exact ⟨R4.stays fun b hb => k5 b (R4.lt hb) (blocks b hb).2, b4.trans b5, fun b hb => (blocks b hb).1⟩

def RAbs.flies (A : RAbs) (id : Int) : Bool := decide (0 ≤ id) && (match A.all[id.toNat]? with | some x => !x.gone | none => false)
theorem flies_abs (N : RNet) (id : Int) : N.abs.flies id = fliesB N.all id := by
  unfold RAbs.flies fliesB RNet.abs
  simp only [List.getElem?_map]
  cases N.all[id.toNat]? <;> rfl
theorem flies_get {l : List RFl} {id : Int} (h : fliesB l id = true) : ∃ k : Nat, id = k ∧ ∃ x, l[k]? = some x ∧ x.gone = false := by
  unfold fliesB at h
  simp only [Bool.and_eq_true, decide_eq_true_eq] at h
  refine ⟨id.toNat, by omega, ?_⟩
  cases hx : l[id.toNat]? with
  | none => rw [hx] at h; simp at h
  | some x => rw [hx] at h; exact ⟨x, rfl, by simpa using h.2⟩
def RAbs.setAt (A : RAbs) (id : Int) (f : RA → RA) (kind : Int) : RAbs := ⟨A.all.modify id.toNat f, A.hist, A.evs ++ [⟨kind, id, -1⟩], A.blk⟩
theorem modify_set {α : Type} (f : α → α) : ∀ (l : List α) (k : Nat) (x : α), l[k]? = some x → l.modify k f = l.set k (f x)
  | [], k, x, h => by simp at h
  | y :: l, 0, x, h => by simp at h; subst h; simp
  | y :: l, k + 1, x, h => by simp at h; simp [modify_set f l k x h]
theorem setAt_abs {N N1 N2 N3 : RNet} {k : Nat} {x x1 x' : RFl} {f : RA → RA} {kind : Int} {w w' Wf W1 : World} (O : ROwned Wf W1 N N1) (hx : N.all[k]? = some x) (hx1 : N1.all[k]? = some x1) (h2 : N2.all = N1.all.set k x') (hf : x'.abs = f x1.abs) (h5 : N2.hist = N1.hist) (h7 : N2.evs = N1.evs) (h8 : N2.blk = N1.blk)
    (T : RNoted w w' N2 ⟨kind, (k : Nat), -1⟩ N3) : N3.abs = N.abs.setAt (k : Nat) f kind := by
  obtain ⟨-, e1, e2, e3, e4, -⟩ := T
  unfold RNet.abs RAbs.setAt
  simp only [e1, e2, e3, e4, h2, h5, h7, h8, O.hist, O.evs, O.blk, Int.toNat_natCast]
  congr 1
  rw [List.map_set, hf, O.abs]
  have hy : (N.all.map RFl.abs)[k]? = some x1.abs := by
    rw [← O.abs, List.getElem?_map, hx1]; rfl
  rw [modify_set f _ k _ hy]

def RAbs.drop (A : RAbs) (id : Int) : RAbs × Int := if A.flies id = false then (A, 9) else (A.setAt id (fun x => { x with gone := true }) 3, 0)

theorem owned_at {Wf W1 : World} {N N1 : RNet} (O : ROwned Wf W1 N N1) {k : Nat} {x : RFl} (hx : N.all[k]? = some x) : ∃ x1, N1.all[k]? = some x1 ∧ x1.abs = x.abs := by
  have h : (N1.all.map RFl.abs)[k]? = some x.abs := by rw [O.abs, List.getElem?_map, hx]; rfl
  rw [List.getElem?_map] at h
  cases hx1 : N1.all[k]? with
  | none => rw [hx1] at h; cases h
  | some x1 => rw [hx1] at h; exact ⟨x1, rfl, Option.some.inj h⟩

theorem mod_out {w Wf W1 W3 W4 W5 : World} {N N1 N3 : RNet} {k : Nat} {x x1 x' : RFl} {f : RA → RA} {kind : Int} (R : ROk w N) (bf : Below w.heap.size w Wf) (O : ROwned Wf W1 N N1) (hx : N.all[k]? = some x) (hx1 : N1.all[k]? = some x1) (hbv : x'.p.bv = x1.p.bv) (hf : x'.abs = f x1.abs)
    (b3 : Below w.heap.size W1 W3) (T : RNoted W3 W4 { N1 with all := N1.all.set k x' } ⟨kind, (k : Nat), -1⟩ N3) (c : Nat) (hc1 : w.heap.size ≤ c) (hc2 : c < Wf.heap.size) (k5 : ∀ b, b < W4.heap.size → b ≠ c → W5.heap[b]? = W4.heap[b]?) (b5 : Below w.heap.size W4 W5) :
    RNext w W5 N N3 ∧ N3.abs = N.abs.setAt (k : Nat) f kind := by
  refine ⟨mod_end (N2 := { N1 with all := N1.all.set k x' }) R bf O rfl rfl rfl rfl rfl (fun y hy => ?_) b3 T c hc1 hc2 k5 b5, setAt_abs (N2 := { N1 with all := N1.all.set k x' }) O hx hx1 rfl hf rfl rfl rfl T⟩
  rcases List.mem_or_eq_of_mem_set hy with h | h
  · exact ⟨y, h, rfl⟩
  · exact ⟨x1, List.mem_of_getElem? hx1, by rw [h]; exact hbv⟩

set_option maxHeartbeats 2000000 in
set_option maxRecDepth 100000 in
theorem rdrop_any (N : RNet) (w : World) (R : ROk w N) (S : RSmall N) (id : Int) :
    Calls Try.prog 48 #[N.val, .int .i64 id] w (ROut0 w N (N.abs.drop id).1 (N.abs.drop id).2) := by
  obtain ⟨W0, hW0⟩ : ∃ W0, W0 = (w.alloc (.cells #[N.va, N.vh, N.ve, N.vb] 64)).alloc (.cells #[.slice none 0 0, .slice none 0 0, .slice none 0 0, .slice none 0 0] 64) := ⟨_, rfl⟩
  have b0 : Below w.heap.size w W0 := by rw [hW0]; exact ((Below.refl _ _).alloc (Nat.le_refl _) _).alloc (by simp) _
  have z0 : w.heap.size + 2 = W0.heap.size := by rw [hW0]; simp
  have x0 : W0.heap[w.heap.size]? = some (.cells #[N.va, N.vh, N.ve, N.vb] 64 (0, 0)) := by rw [hW0, old_at (by simp)]; exact new_at rfl
  have x1 : W0.heap[w.heap.size + 1]? = some (.cells #[.slice none 0 0, .slice none 0 0, .slice none 0 0, .slice none 0 0] 64 (0, 0)) := by rw [hW0]; exact new_at (by simp)
  have HR := Lib.hid R
  have HS := Lib.hid S
  have HB0 := Lib.hid b0
  have hfm := R.forms
  have HW0 := Lib.hid hW0
  have HZ0 := Lib.hid z0
  have HF := Lib.hid (flies_any N W0 (R.below b0) S id)
  unfold RAbs.drop
  rw [flies_abs]
  cases hfl : fliesB N.all id
  · rw [if_pos rfl]
    rw [hfl] at HF
    dsimp only
    have HT : Hid (∀ (W2 : World) (er : Int), Below w.heap.size w W2 → ROut0 w N N.abs er (.returned (.tuple #[N.val, .int .i64 er])) W2) := Lib.hid fun W2 er hb => ⟨N, rfl, RNext.refl R hb, rfl⟩
    clear R S b0 hW0 z0 hfl
    unfold RNet.val at *
    generalize N.abs = A at *
    obtain ⟨all0, hist0, evs0, blk0, va0, vh0, ve0, vb0⟩ := N
    dsimp only at *
    obtain ⟨⟨a1, n1, k1, rfl⟩, ⟨a2, n2, k2, rfl⟩, ⟨a3, n3, k3, rfl⟩, ⟨a4, n4, k4, rfl⟩⟩ := hfm
    obtain ⟨i0, i1, i2, i3, fi⟩ := cells4 x0
    go_enter Try.func48, Try.ntmps48
    go_wp2_with fail
    rw [← HW0.out]
    refine HF.out.mono ?_
    rintro e W1 ⟨rfl, hb1⟩
    have hz0 := HZ0.out
    have y0 := old_box x0 hb1 (by omega)
    have y1 := old_box x1 hb1 (by omega)
    clear i0 i1 i2 i3 fi
    obtain ⟨i0, i1, i2, i3, fi⟩ := cells4 y0
    obtain ⟨l0, l1, l2, l3, fl⟩ := cells4 y1
    have HB1 := Lib.hid hb1
    clear hb1
    go_wp2_with fail
    exact bodyPost_ret (v := .tuple #[.agg #[.slice a1 n1 k1, .slice a2 n2 k2, .slice a3 n3 k3, .slice a4 n4 k4], .int .i64 9]) (by simp [results, Try.results48, go_sem, l0, l1, l2, l3]) rfl
      (HT.out _ 9 ((HB0.out.trans (HB1.out.mono (by omega))).trans (box4_below (by omega) _ _ _ _)))
  · rw [if_neg (by decide)]
    dsimp only
    obtain ⟨k, rfl, x, hx, hg⟩ := flies_get hfl
    rw [hfl] at HF
    have HX := Lib.hid hx
    have hkl : k < N.all.length := (List.getElem?_eq_some_iff.1 hx).1
    have hnl := S.all
    obtain ⟨⟨a1, n1, k1, ha1⟩, ⟨a2, n2, k2, ha2⟩, ⟨a3, n3, k3, ha3⟩, ⟨a4, n4, k4, ha4⟩⟩ := hfm
    have HVAL : Hid (N.val = .agg #[.slice a1 n1 k1, .slice a2 n2 k2, .slice a3 n3 k3, .slice a4 n4 k4]) := Lib.hid (by unfold RNet.val; rw [ha1, ha2, ha3, ha4])
    rw [ha1, ha2, ha3, ha4] at x0 HW0
    clear R S b0 hW0 z0 hfl hx ha1 ha2 ha3 ha4
    rw [HVAL.out] at HF ⊢
    obtain ⟨i0, i1, i2, i3, fi⟩ := cells4 x0
    go_enter Try.func48, Try.ntmps48
    go_wp2_with fail
    rw [← HW0.out]
    refine HF.out.mono ?_
    rintro e Wf ⟨rfl, hbf⟩
    have hz0 := HZ0.out
    have y0 := old_box x0 hbf (by omega)
    have y1 := old_box x1 hbf (by omega)
    clear i0 i1 i2 i3 fi
    obtain ⟨i0, i1, i2, i3, fi⟩ := cells4 y0
    have hzf := hbf.size
    have bf : Below w.heap.size w Wf := HB0.out.trans (hbf.mono (by omega))
    have HO := Lib.hid (rowned_any N Wf (HR.out.below bf) HS.out)
    have HBF := Lib.hid bf
    clear hbf bf
    rw [HVAL.out] at HO
    go_wp2_with fail
    refine HO.out.mono ?_
    rintro e W1 ⟨N1, rfl, O⟩
    obtain ⟨x1', hx1, hxa⟩ := owned_at O HX.out
    have hl1 : N1.all.length = N.all.length := by have := congrArg List.length O.abs; simpa using this
    have hz1 := O.below.size
    have y1 := old_box y1 O.below (by omega)
    obtain ⟨g, c, hva1⟩ := slice_box O.ok.a (by omega)
    have hgl : g < W1.heap.size := (O.ok.a.lt g (by rw [hva1]; rfl)).2
    have hgf : Wf.heap.size ≤ g := O.fa g (by rw [hva1]; rfl)
    obtain ⟨-, ⟨d2, m2, l2, hd2⟩, ⟨d3, m3, l3, hd3⟩, ⟨d4, m4, l4, hd4⟩⟩ := O.ok.forms
    obtain ⟨ln, hln⟩ : ∃ ln, N1.all.length = ln := ⟨_, rfl⟩
    have HVAL1 : Hid (N1.val = .agg #[.slice (some ⟨g, 0, none⟩) ln c, .slice d2 m2 l2, .slice d3 m3 l3, .slice d4 m4 l4]) := Lib.hid (by unfold RNet.val; rw [hva1, hd2, hd3, hd4, hln])
    obtain ⟨Wm, hWm⟩ : ∃ Wm, Wm = W1.alloc (.cells #[.slice (some ⟨g, 0, none⟩) ln c, .slice d2 m2 l2, .slice d3 m3 l3, .slice d4 m4 l4] 64) := ⟨_, rfl⟩
    have bm : Below W1.heap.size W1 Wm := by rw [hWm]; exact (Below.refl _ _).alloc (Nat.le_refl _) _
    have Rm := O.ok.below bm
    obtain ⟨N2, hN2⟩ : ∃ N2 : RNet, N2 = { N1 with all := N1.all.set k { x1' with gone := true } } := ⟨_, rfl⟩
    obtain ⟨W3, hW3⟩ : ∃ W3, W3 = Wm.setCell ⟨g, k * 5 + 4, none⟩ (.bool true) := ⟨_, rfl⟩
    have r2 : ROk W3 N2 := by
      rw [hN2, hW3]
      exact rset Rm hx1 hva1 4 (by decide) (.bool true) rfl rfl rfl (O.ok.aok x1' (List.mem_of_getElem? hx1))
    have hv2 : N2.val = .agg #[.slice (some ⟨g, 0, none⟩) ln c, .slice d2 m2 l2, .slice d3 m3 l3, .slice d4 m4 l4] := by rw [← HVAL1.out, hN2]; rfl
    have HNT := Lib.hid (rnoted_any N2 W3 r2 ⟨by rw [hN2]; simp [hl1]; exact hnl, by rw [hN2]; show N1.hist.length ≤ _; rw [O.hist]; exact HS.out.hist, by rw [hN2]; show N1.evs.length ≤ _; rw [O.evs]; exact HS.out.evs, by rw [hN2]; show N1.blk.length ≤ _; rw [O.blk]; exact HS.out.blk⟩ 3 (k : Nat) (-1))
    rw [hv2] at HNT
    have b13 : Below w.heap.size W1 W3 := by
      rw [hW3]
      exact (bm.mono (by omega)).setCell (p := ⟨_, _, _⟩) (by show w.heap.size ≤ g; omega) _
    have t1 : W3.heap[w.heap.size + 1]? = some (.cells #[.slice none 0 0, .slice none 0 0, .slice none 0 0, .slice none 0 0] 64 (0, 0)) := by
      rw [hW3, set_other (by show w.heap.size + 1 ≠ g; omega), hWm, old_at (by omega)]; exact y1
    have ra := Rm.a
    rw [hva1, hln] at ra
    have cg := el_at (f := RFl.cells) (fun _ => rfl) ra hx1 hln 4 (by decide)
    simp only [RFl.cells, List.getElem?_cons_succ, List.getElem?_cons_zero] at cg
    have fg := ra.frozenAt (k * 5 + 4)
    have END : Hid (∀ W4 N3, RNoted W3 W4 N2 ⟨3, (k : Nat), -1⟩ N3 → ∀ W5, W5 = ((((W4.setCell ⟨w.heap.size + 1, 0, none⟩ N3.va).setCell ⟨w.heap.size + 1, 1, none⟩ N3.vh).setCell ⟨w.heap.size + 1, 2, none⟩ N3.ve).setCell ⟨w.heap.size + 1, 3, none⟩ N3.vb) →
        ∀ v, v = N3.val → ROut0 w N (RAbs.setAt N.abs (k : Nat) (fun x => { x with gone := true }) 3) 0 (.returned (.tuple #[v, .int .i64 0])) W5) := Lib.hid fun W4 N3 T W5 h5 v hv => by
      rw [hN2] at T
      obtain ⟨e1, e2⟩ := mod_out (W4 := W4) (W5 := W5) (x' := { x1' with gone := true }) (f := fun x => { x with gone := true }) HR.out HBF.out O HX.out hx1 rfl rfl b13 T (w.heap.size + 1) (by omega) (by omega) (fun b _ hb => by rw [h5, box4_other _ _ _ _ hb]) (by rw [h5]; exact box4_below (by omega) _ _ _ _)
      exact ⟨N3, by rw [hv], e1, e2⟩
    have nve : ∀ b, N2.ve.ownBlock = some b → Wf.heap.size ≤ b := by rw [hN2]; exact O.fe
    have hne1 : ¬ W1.heap.size = g := by omega
    have hne2 : ¬ g = W1.heap.size := by omega
    have hk1 : k < ln := by omega
    rw [hWm] at cg fg
    have HWm := Lib.hid hWm
    have HW3 := Lib.hid hW3
    clear O r2 Rm bm b13 ra hx1 hxa hWm hW3 hl1 y0 hgl i0 i1 i2 i3 fi hva1 hd2 hd3 hd4 hN2 hv2 hln
    rw [HVAL1.out]
    go_wp2_with fail
    rw [← HWm.out, ← HW3.out]
    refine HNT.out.mono ?_
    rintro e W4 ⟨N3, rfl, T⟩
    have hz3 : w.heap.size + 1 < W3.heap.size := (Array.getElem?_eq_some_iff.1 t1).1
    have y4 := (T.2.2.2.2.2.2.2.2.2.block (w.heap.size + 1) hz3 (fun e => by have := nve _ e.symm; omega)).trans t1
    obtain ⟨⟨q1, q2, q3, e1⟩, ⟨q4, q5, q6, e2⟩, ⟨q7, q8, q9, e3⟩, ⟨q10, q11, q12, e4⟩⟩ := T.1.forms
    have hv3 : N3.val = .agg #[.slice q1 q2 q3, .slice q4 q5 q6, .slice q7 q8 q9, .slice q10 q11 q12] := by unfold RNet.val; rw [e1, e2, e3, e4]
    have HE := END.out W4 N3 T
    rw [e1, e2, e3, e4] at HE
    have HE2 := Lib.hid (HE _ rfl _ hv3.symm)
    rw [hv3]
    obtain ⟨l0, l1, l2', l3', fl⟩ := cells4 y4
    clear T END cg fg t1 hv3 e1 e2 e3 e4 HE
    go_wp2_with fail
    exact bodyPost_ret (v := .tuple #[.agg #[.slice q1 q2 q3, .slice q4 q5 q6, .slice q7 q8 q9, .slice q10 q11 q12], .int .i64 0]) (by simp [results, Try.results48, go_sem, l0, l1, l2', l3']) rfl HE2.out
end Go.Proofs.Ytiindnmelegkgaa
end
/- The reference's Redirect. -/
section
namespace Go.Proofs.Ytiindnmelegkgaa
open Go.RowKit
set_option linter.unusedSimpArgs false
set_option linter.unusedVariables false

def RAbs.redirect (A : RAbs) (id : Int) (to : ByteArray) : RAbs × Int := if hostB to = false then (A, 2) else if A.flies id = false then (A, 9) else (A.setAt id (fun x => { x with to := to }) 6, 0)

set_option maxHeartbeats 2000000 in
set_option maxRecDepth 100000 in
theorem rredirect_any (N : RNet) (w : World) (R : ROk w N) (S : RSmall N) (id : Int) (to : ByteArray) :
    Calls Try.prog 50 #[N.val, .int .i64 id, .string to] w (ROut0 w N (N.abs.redirect id to).1 (N.abs.redirect id to).2) := by
  obtain ⟨W0, hW0⟩ : ∃ W0, W0 = (w.alloc (.cells #[N.va, N.vh, N.ve, N.vb] 64)).alloc (.cells #[.slice none 0 0, .slice none 0 0, .slice none 0 0, .slice none 0 0] 64) := ⟨_, rfl⟩
  have b0 : Below w.heap.size w W0 := by rw [hW0]; exact ((Below.refl _ _).alloc (Nat.le_refl _) _).alloc (by simp) _
  have z0 : w.heap.size + 2 = W0.heap.size := by rw [hW0]; simp
  have x0 : W0.heap[w.heap.size]? = some (.cells #[N.va, N.vh, N.ve, N.vb] 64 (0, 0)) := by rw [hW0, old_at (by simp)]; exact new_at rfl
  have x1 : W0.heap[w.heap.size + 1]? = some (.cells #[.slice none 0 0, .slice none 0 0, .slice none 0 0, .slice none 0 0] 64 (0, 0)) := by rw [hW0]; exact new_at (by simp)
  have HR := Lib.hid R
  have HS := Lib.hid S
  have HB0 := Lib.hid b0
  have hfm := R.forms
  have HW0 := Lib.hid hW0
  have HZ0 := Lib.hid z0
  have HF := Lib.hid (flies_any N W0 (R.below b0) S id)
  unfold RAbs.redirect
  rw [flies_abs]
  cases ht : hostB to
  · rw [if_pos rfl]
    dsimp only
    have HT : Hid (∀ (W2 : World) (er : Int), Below w.heap.size w W2 → ROut0 w N N.abs er (.returned (.tuple #[N.val, .int .i64 er])) W2) := Lib.hid fun W2 er hb => ⟨N, rfl, RNext.refl R hb, rfl⟩
    clear R S b0 hW0 HF
    unfold RNet.val at *
    generalize N.abs = A at *
    obtain ⟨all0, hist0, evs0, blk0, va0, vh0, ve0, vb0⟩ := N
    dsimp only at *
    obtain ⟨⟨a1, n1, k1, rfl⟩, ⟨a2, n2, k2, rfl⟩, ⟨a3, n3, k3, rfl⟩, ⟨a4, n4, k4, rfl⟩⟩ := hfm
    obtain ⟨i0, i1, i2, i3, fi⟩ := cells4 x0
    obtain ⟨l0, l1, l2, l3, fl⟩ := cells4 x1
    go_enter Try.func50, Try.ntmps50
    go_wp2_with fail
    refine (rhost_any _ _).mono ?_
    rintro e w1 ⟨rfl, rfl⟩
    rw [ht]
    rw [← HW0.out]
    clear z0
    go_wp2_with fail
    exact bodyPost_ret (v := .tuple #[.agg #[.slice a1 n1 k1, .slice a2 n2 k2, .slice a3 n3 k3, .slice a4 n4 k4], .int .i64 2]) (by simp [results, Try.results50, go_sem, l0, l1, l2, l3]) rfl
      (HT.out _ 2 (HB0.out.trans (box4_below (by omega) _ _ _ _)))
  rw [if_neg (by decide)]
  have HTO := Lib.hid ht
  clear ht
  cases hfl : fliesB N.all id
  · rw [if_pos rfl]
    rw [hfl] at HF
    dsimp only
    have HT : Hid (∀ (W2 : World) (er : Int), Below w.heap.size w W2 → ROut0 w N N.abs er (.returned (.tuple #[N.val, .int .i64 er])) W2) := Lib.hid fun W2 er hb => ⟨N, rfl, RNext.refl R hb, rfl⟩
    clear R S b0 hW0 z0 hfl
    unfold RNet.val at *
    generalize N.abs = A at *
    obtain ⟨all0, hist0, evs0, blk0, va0, vh0, ve0, vb0⟩ := N
    dsimp only at *
    obtain ⟨⟨a1, n1, k1, rfl⟩, ⟨a2, n2, k2, rfl⟩, ⟨a3, n3, k3, rfl⟩, ⟨a4, n4, k4, rfl⟩⟩ := hfm
    obtain ⟨i0, i1, i2, i3, fi⟩ := cells4 x0
    go_enter Try.func50, Try.ntmps50
    go_wp2_with fail
    refine (rhost_any _ _).mono ?_
    rintro e w1 ⟨rfl, rfl⟩
    rw [HTO.out]
    rw [← HW0.out]
    go_wp2_with fail
    refine HF.out.mono ?_
    rintro e W1 ⟨rfl, hb1⟩
    have hz0 := HZ0.out
    have y0 := old_box x0 hb1 (by omega)
    have y1 := old_box x1 hb1 (by omega)
    clear i0 i1 i2 i3 fi
    obtain ⟨i0, i1, i2, i3, fi⟩ := cells4 y0
    obtain ⟨l0, l1, l2, l3, fl⟩ := cells4 y1
    have HB1 := Lib.hid hb1
    clear hb1
    go_wp2_with fail
    exact bodyPost_ret (v := .tuple #[.agg #[.slice a1 n1 k1, .slice a2 n2 k2, .slice a3 n3 k3, .slice a4 n4 k4], .int .i64 9]) (by simp [results, Try.results50, go_sem, l0, l1, l2, l3]) rfl
      (HT.out _ 9 ((HB0.out.trans (HB1.out.mono (by omega))).trans (box4_below (by omega) _ _ _ _)))
  · rw [if_neg (by decide)]
    dsimp only
    obtain ⟨k, rfl, x, hx, hg⟩ := flies_get hfl
    rw [hfl] at HF
    have HX := Lib.hid hx
    have hkl : k < N.all.length := (List.getElem?_eq_some_iff.1 hx).1
    have hnl := S.all
    obtain ⟨⟨a1, n1, k1, ha1⟩, ⟨a2, n2, k2, ha2⟩, ⟨a3, n3, k3, ha3⟩, ⟨a4, n4, k4, ha4⟩⟩ := hfm
    have HVAL : Hid (N.val = .agg #[.slice a1 n1 k1, .slice a2 n2 k2, .slice a3 n3 k3, .slice a4 n4 k4]) := Lib.hid (by unfold RNet.val; rw [ha1, ha2, ha3, ha4])
    rw [ha1, ha2, ha3, ha4] at x0 HW0
    clear R S b0 hW0 z0 hfl hx ha1 ha2 ha3 ha4
    rw [HVAL.out] at HF ⊢
    obtain ⟨i0, i1, i2, i3, fi⟩ := cells4 x0
    go_enter Try.func50, Try.ntmps50
    go_wp2_with fail
    refine (rhost_any _ _).mono ?_
    rintro e w1 ⟨rfl, rfl⟩
    rw [HTO.out]
    rw [← HW0.out]
    go_wp2_with fail
    refine HF.out.mono ?_
    rintro e Wf ⟨rfl, hbf⟩
    have hz0 := HZ0.out
    have y0 := old_box x0 hbf (by omega)
    have y1 := old_box x1 hbf (by omega)
    clear i0 i1 i2 i3 fi
    obtain ⟨i0, i1, i2, i3, fi⟩ := cells4 y0
    have hzf := hbf.size
    have bf : Below w.heap.size w Wf := HB0.out.trans (hbf.mono (by omega))
    have HO := Lib.hid (rowned_any N Wf (HR.out.below bf) HS.out)
    have HBF := Lib.hid bf
    clear hbf bf
    rw [HVAL.out] at HO
    go_wp2_with fail
    refine HO.out.mono ?_
    rintro e W1 ⟨N1, rfl, O⟩
    obtain ⟨x1', hx1, hxa⟩ := owned_at O HX.out
    have hl1 : N1.all.length = N.all.length := by have := congrArg List.length O.abs; simpa using this
    have hz1 := O.below.size
    have y1 := old_box y1 O.below (by omega)
    obtain ⟨g, c, hva1⟩ := slice_box O.ok.a (by omega)
    have hgl : g < W1.heap.size := (O.ok.a.lt g (by rw [hva1]; rfl)).2
    have hgf : Wf.heap.size ≤ g := O.fa g (by rw [hva1]; rfl)
    obtain ⟨-, ⟨d2, m2, l2, hd2⟩, ⟨d3, m3, l3, hd3⟩, ⟨d4, m4, l4, hd4⟩⟩ := O.ok.forms
    obtain ⟨ln, hln⟩ : ∃ ln, N1.all.length = ln := ⟨_, rfl⟩
    have HVAL1 : Hid (N1.val = .agg #[.slice (some ⟨g, 0, none⟩) ln c, .slice d2 m2 l2, .slice d3 m3 l3, .slice d4 m4 l4]) := Lib.hid (by unfold RNet.val; rw [hva1, hd2, hd3, hd4, hln])
    obtain ⟨Wm, hWm⟩ : ∃ Wm, Wm = W1.alloc (.cells #[.slice (some ⟨g, 0, none⟩) ln c, .slice d2 m2 l2, .slice d3 m3 l3, .slice d4 m4 l4] 64) := ⟨_, rfl⟩
    have bm : Below W1.heap.size W1 Wm := by rw [hWm]; exact (Below.refl _ _).alloc (Nat.le_refl _) _
    have Rm := O.ok.below bm
    obtain ⟨N2, hN2⟩ : ∃ N2 : RNet, N2 = { N1 with all := N1.all.set k { x1' with p := { x1'.p with to := to } } } := ⟨_, rfl⟩
    obtain ⟨W3, hW3⟩ : ∃ W3, W3 = Wm.setCell ⟨g, k * 5 + 1, none⟩ (.string to) := ⟨_, rfl⟩
    have r2 : ROk W3 N2 := by
      rw [hN2, hW3]
      exact rset Rm hx1 hva1 1 (by decide) (.string to) rfl rfl rfl (by have := O.ok.aok x1' (List.mem_of_getElem? hx1); simp only [validB, Bool.and_eq_true] at this ⊢; exact ⟨⟨this.1.1, HTO.out⟩, this.2⟩)
    have hv2 : N2.val = .agg #[.slice (some ⟨g, 0, none⟩) ln c, .slice d2 m2 l2, .slice d3 m3 l3, .slice d4 m4 l4] := by rw [← HVAL1.out, hN2]; rfl
    have HNT := Lib.hid (rnoted_any N2 W3 r2 ⟨by rw [hN2]; simp [hl1]; exact hnl, by rw [hN2]; show N1.hist.length ≤ _; rw [O.hist]; exact HS.out.hist, by rw [hN2]; show N1.evs.length ≤ _; rw [O.evs]; exact HS.out.evs, by rw [hN2]; show N1.blk.length ≤ _; rw [O.blk]; exact HS.out.blk⟩ 6 (k : Nat) (-1))
    rw [hv2] at HNT
    have b13 : Below w.heap.size W1 W3 := by
      rw [hW3]
      exact (bm.mono (by omega)).setCell (p := ⟨_, _, _⟩) (by show w.heap.size ≤ g; omega) _
    have t1 : W3.heap[w.heap.size + 1]? = some (.cells #[.slice none 0 0, .slice none 0 0, .slice none 0 0, .slice none 0 0] 64 (0, 0)) := by
      rw [hW3, set_other (by show w.heap.size + 1 ≠ g; omega), hWm, old_at (by omega)]; exact y1
    have ra := Rm.a
    rw [hva1, hln] at ra
    have cg := el_at (f := RFl.cells) (fun _ => rfl) ra hx1 hln 1 (by decide)
    simp only [RFl.cells, List.getElem?_cons_succ, List.getElem?_cons_zero] at cg
    have fg := ra.frozenAt (k * 5 + 1)
    have END : Hid (∀ W4 N3, RNoted W3 W4 N2 ⟨6, (k : Nat), -1⟩ N3 → ∀ W5, W5 = ((((W4.setCell ⟨w.heap.size + 1, 0, none⟩ N3.va).setCell ⟨w.heap.size + 1, 1, none⟩ N3.vh).setCell ⟨w.heap.size + 1, 2, none⟩ N3.ve).setCell ⟨w.heap.size + 1, 3, none⟩ N3.vb) →
        ∀ v, v = N3.val → ROut0 w N (RAbs.setAt N.abs (k : Nat) (fun x => { x with to := to }) 6) 0 (.returned (.tuple #[v, .int .i64 0])) W5) := Lib.hid fun W4 N3 T W5 h5 v hv => by
      rw [hN2] at T
      obtain ⟨e1, e2⟩ := mod_out (W4 := W4) (W5 := W5) (x' := { x1' with p := { x1'.p with to := to } }) (f := fun x => { x with to := to }) HR.out HBF.out O HX.out hx1 rfl rfl b13 T (w.heap.size + 1) (by omega) (by omega) (fun b _ hb => by rw [h5, box4_other _ _ _ _ hb]) (by rw [h5]; exact box4_below (by omega) _ _ _ _)
      exact ⟨N3, by rw [hv], e1, e2⟩
    have nve : ∀ b, N2.ve.ownBlock = some b → Wf.heap.size ≤ b := by rw [hN2]; exact O.fe
    have hne1 : ¬ W1.heap.size = g := by omega
    have hne2 : ¬ g = W1.heap.size := by omega
    have hk1 : k < ln := by omega
    rw [hWm] at cg fg
    have HWm := Lib.hid hWm
    have HW3 := Lib.hid hW3
    clear O r2 Rm bm b13 ra hx1 hxa hWm hW3 hl1 y0 hgl i0 i1 i2 i3 fi hva1 hd2 hd3 hd4 hN2 hv2 hln
    rw [HVAL1.out]
    go_wp2_with fail
    rw [← HWm.out, ← HW3.out]
    refine HNT.out.mono ?_
    rintro e W4 ⟨N3, rfl, T⟩
    have hz3 : w.heap.size + 1 < W3.heap.size := (Array.getElem?_eq_some_iff.1 t1).1
    have y4 := (T.2.2.2.2.2.2.2.2.2.block (w.heap.size + 1) hz3 (fun e => by have := nve _ e.symm; omega)).trans t1
    obtain ⟨⟨q1, q2, q3, e1⟩, ⟨q4, q5, q6, e2⟩, ⟨q7, q8, q9, e3⟩, ⟨q10, q11, q12, e4⟩⟩ := T.1.forms
    have hv3 : N3.val = .agg #[.slice q1 q2 q3, .slice q4 q5 q6, .slice q7 q8 q9, .slice q10 q11 q12] := by unfold RNet.val; rw [e1, e2, e3, e4]
    have HE := END.out W4 N3 T
    rw [e1, e2, e3, e4] at HE
    have HE2 := Lib.hid (HE _ rfl _ hv3.symm)
    rw [hv3]
    obtain ⟨l0, l1, l2', l3', fl⟩ := cells4 y4
    clear T END cg fg t1 hv3 e1 e2 e3 e4 HE
    go_wp2_with fail
    exact bodyPost_ret (v := .tuple #[.agg #[.slice q1 q2 q3, .slice q4 q5 q6, .slice q7 q8 q9, .slice q10 q11 q12], .int .i64 0]) (by simp [results, Try.results50, go_sem, l0, l1, l2', l3']) rfl HE2.out
end Go.Proofs.Ytiindnmelegkgaa
end
/- The reference's Deliver. -/
section
namespace Go.Proofs.Ytiindnmelegkgaa
open Go.RowKit
set_option linter.unusedSimpArgs false
set_option linter.unusedVariables false

def zeroA : APk := ⟨{ data := #[] }, { data := #[] }, []⟩
def RAbs.at (A : RAbs) (id : Int) : RA := (A.all[id.toNat]?).getD ⟨{ data := #[] }, { data := #[] }, [], 0, true⟩
def RAbs.deliver (A : RAbs) (id : Int) : RAbs × APk × Int :=
  if A.flies id = false then (A, zeroA, 9) else if blockedB A.blk (A.at id).frm (A.at id).to = true then (A, zeroA, 8) else (A.setAt id (fun x => { x with gone := true }) 2, ⟨(A.at id).frm, (A.at id).to, (A.at id).bs⟩, 0)
/-- What Deliver hands back: a network, a packet whose bytes are the old network's, an error. -/
def ROutP (w : World) (N : RNet) (A' : RAbs) (q' : APk) (er : Int) (e : Ending) (w' : World) : Prop := ∃ (N' : RNet) (q : Pk), e = .returned (.tuple #[N'.val, q.val, .int .i64 er]) ∧ RNext w w' N N' ∧ N'.abs = A' ∧ q.abs = q' ∧ ownB w' q.bv q.bs ∧ (∀ b, q.bv.ownBlock = some b → RB N b) ∧ q.bs.length ≤ 65536
theorem at_abs {N : RNet} {k : Nat} {x : RFl} (hx : N.all[k]? = some x) : N.abs.at (k : Nat) = x.abs := by
  unfold RAbs.at RNet.abs
  simp [hx]

set_option maxHeartbeats 2000000 in
set_option maxRecDepth 100000 in
theorem rdeliver_miss (N : RNet) (w : World) (R : ROk w N) (S : RSmall N) (id : Int) (hfl : fliesB N.all id = false) :
    Calls Try.prog 47 #[N.val, .int .i64 id] w (ROutP w N N.abs zeroA 9) := by
  obtain ⟨W0, hW0⟩ : ∃ W0, W0 = ((w.alloc (.cells #[N.va, N.vh, N.ve, N.vb] 64)).alloc (.cells #[.slice none 0 0, .slice none 0 0, .slice none 0 0, .slice none 0 0] 64)).alloc (.cells #[.string { data := #[] }, .string { data := #[] }, .slice none 0 0] 35) := ⟨_, rfl⟩
  have b0 : Below w.heap.size w W0 := by rw [hW0]; exact (((Below.refl _ _).alloc (Nat.le_refl _) _).alloc (by simp) _).alloc (by simp; omega) _
  have z0 : w.heap.size + 3 = W0.heap.size := by rw [hW0]; simp
  have x0 : W0.heap[w.heap.size]? = some (.cells #[N.va, N.vh, N.ve, N.vb] 64 (0, 0)) := by rw [hW0, old_at (by simp; omega), old_at (by simp)]; exact new_at rfl
  have x1 : W0.heap[w.heap.size + 1]? = some (.cells #[.slice none 0 0, .slice none 0 0, .slice none 0 0, .slice none 0 0] 64 (0, 0)) := by rw [hW0, old_at (by simp)]; exact new_at (by simp)
  have x2 : W0.heap[w.heap.size + 2]? = some (.cells #[.string { data := #[] }, .string { data := #[] }, .slice none 0 0] 35 (0, 0)) := by rw [hW0]; exact new_at (by simp)
  have HB0 := Lib.hid b0
  have hfm := R.forms
  have HW0 := Lib.hid hW0
  have HF := Lib.hid (flies_any N W0 (R.below b0) S id)
  rw [hfl] at HF
  obtain ⟨⟨a1, n1, k1, ha1⟩, ⟨a2, n2, k2, ha2⟩, ⟨a3, n3, k3, ha3⟩, ⟨a4, n4, k4, ha4⟩⟩ := hfm
  have hval : N.val = .agg #[.slice a1 n1 k1, .slice a2 n2 k2, .slice a3 n3 k3, .slice a4 n4 k4] := by unfold RNet.val; rw [ha1, ha2, ha3, ha4]
  have HT : Hid (∀ (W2 : World) v, v = N.val → Below w.heap.size w W2 → ROutP w N N.abs zeroA 9 (.returned (.tuple #[v, .agg #[.string { data := #[] }, .string { data := #[] }, .slice none 0 0], .int .i64 9])) W2) := Lib.hid fun W2 v hv hb => ⟨N, ⟨{ data := #[] }, { data := #[] }, .slice none 0 0, []⟩, by rw [hv]; rfl, RNext.refl R hb, rfl, rfl, World.ownsRow_nil _ _ _ _, by simp [Value.ownBlock], by simp⟩
  have HVAL := Lib.hid hval
  rw [ha1, ha2, ha3, ha4] at x0 HW0
  clear R S b0 hW0 ha1 ha2 ha3 ha4 hval
  rw [HVAL.out] at HF ⊢
  obtain ⟨i0, i1, i2, i3, fi⟩ := cells4 x0
  go_enter Try.func47, Try.ntmps47
  go_wp2_with fail
  rw [← HW0.out]
  refine HF.out.mono ?_
  rintro e W1 ⟨rfl, hb1⟩
  have y0 := old_box x0 hb1 (by omega)
  have y1 := old_box x1 hb1 (by omega)
  have y2 := old_box x2 hb1 (by omega)
  clear i0 i1 i2 i3 fi
  obtain ⟨i0, i1, i2, i3, fi⟩ := cells4 y0
  obtain ⟨l0, l1, l2, l3, fl⟩ := cells4 y1
  obtain ⟨j0, j1, j2, fj⟩ := cells3 y2
  have HB1 := Lib.hid hb1
  have HZ := Lib.hid z0
  clear hb1 z0
  go_wp2_with fail
  exact bodyPost_ret (v := .tuple #[.agg #[.slice a1 n1 k1, .slice a2 n2 k2, .slice a3 n3 k3, .slice a4 n4 k4], .agg #[.string { data := #[] }, .string { data := #[] }, .slice none 0 0], .int .i64 9]) (by simp [results, Try.results47, go_sem, l0, l1, l2, l3, j0, j1, j2]) rfl
    (HT.out _ _ HVAL.out.symm (((((HB0.out.trans (HB1.out.mono (by have := HZ.out; omega))).trans (box4_below (by omega) _ _ _ _)).setCell (p := ⟨_, _, _⟩) (by simp; omega) _).setCell (p := ⟨_, _, _⟩) (by simp; omega) _).setCell (p := ⟨_, _, _⟩) (by simp; omega) _))

set_option maxHeartbeats 2000000 in
set_option maxRecDepth 100000 in
theorem rdeliver_stuck (N : RNet) (w : World) (R : ROk w N) (S : RSmall N) (k : Nat) (x : RFl) (hx : N.all[k]? = some x) (hg : x.gone = false) (BLK : blockedB N.blk x.p.frm x.p.to = true) :
    Calls Try.prog 47 #[N.val, .int .i64 (k : Nat)] w (ROutP w N N.abs zeroA 8) := by
  have HT : Hid (∀ (W2 : World) v, v = N.val → Below w.heap.size w W2 → ROutP w N N.abs zeroA 8 (.returned (.tuple #[v, .agg #[.string { data := #[] }, .string { data := #[] }, .slice none 0 0], .int .i64 8])) W2) := Lib.hid fun W2 v hv hb => ⟨N, ⟨{ data := #[] }, { data := #[] }, .slice none 0 0, []⟩, by rw [hv]; rfl, RNext.refl R hb, rfl, rfl, World.ownsRow_nil _ _ _ _, by simp [Value.ownBlock], by simp⟩
  obtain ⟨W0, hW0⟩ : ∃ W0, W0 = ((w.alloc (.cells #[N.va, N.vh, N.ve, N.vb] 64)).alloc (.cells #[.slice none 0 0, .slice none 0 0, .slice none 0 0, .slice none 0 0] 64)).alloc (.cells #[.string { data := #[] }, .string { data := #[] }, .slice none 0 0] 35) := ⟨_, rfl⟩
  have b0 : Below w.heap.size w W0 := by rw [hW0]; exact (((Below.refl _ _).alloc (Nat.le_refl _) _).alloc (by simp) _).alloc (by simp; omega) _
  have z0 : w.heap.size + 3 = W0.heap.size := by rw [hW0]; simp
  have x0 : W0.heap[w.heap.size]? = some (.cells #[N.va, N.vh, N.ve, N.vb] 64 (0, 0)) := by rw [hW0, old_at (by simp; omega), old_at (by simp)]; exact new_at rfl
  have x1 : W0.heap[w.heap.size + 1]? = some (.cells #[.slice none 0 0, .slice none 0 0, .slice none 0 0, .slice none 0 0] 64 (0, 0)) := by rw [hW0, old_at (by simp)]; exact new_at (by simp)
  have x2 : W0.heap[w.heap.size + 2]? = some (.cells #[.string { data := #[] }, .string { data := #[] }, .slice none 0 0] 35 (0, 0)) := by rw [hW0]; exact new_at (by simp)
  have HB0 := Lib.hid b0
  have hfm := R.forms
  have HW0 := Lib.hid hW0
  have HF := Lib.hid (flies_any N W0 (R.below b0) S (k : Nat))
  have hfl : fliesB N.all (k : Nat) = true := by simp [fliesB, hx, hg]
  rw [hfl] at HF
  have hkl : k < N.all.length := (List.getElem?_eq_some_iff.1 hx).1
  have hnl := S.all
  have HR := Lib.hid R
  have HS := Lib.hid S
  have HX := Lib.hid hx
  have hxm := List.mem_of_getElem? hx
  obtain ⟨⟨a1, n1, k1, ha1⟩, ⟨a2, n2, k2, ha2⟩, ⟨a3, n3, k3, ha3⟩, ⟨a4, n4, k4, ha4⟩⟩ := hfm
  obtain ⟨g0, c0, hva⟩ := slice_box R.a (by omega)
  obtain ⟨n, hn⟩ : ∃ n, N.all.length = n := ⟨_, rfl⟩
  rw [hn] at hva hkl hnl
  have hval : N.val = .agg #[.slice (some ⟨g0, 0, none⟩) n c0, .slice a2 n2 k2, .slice a3 n3 k3, .slice a4 n4 k4] := by unfold RNet.val; rw [hva, ha2, ha3, ha4]
  have HVAL := Lib.hid hval
  obtain ⟨pa, pc, hbv⟩ := ownB_slice (R.ab x hxm)
  obtain ⟨pl, hpl⟩ : ∃ l, x.p.bs.length = l := ⟨_, rfl⟩
  have ra := R.a
  rw [hva, hn] at ra
  have hgl : g0 < w.heap.size := (ra.lt g0 rfl).2
  have m0 := el_at (f := RFl.cells) (fun _ => rfl) ra hx hn 0 (by decide)
  have m1 := el_at (f := RFl.cells) (fun _ => rfl) ra hx hn 1 (by decide)
  have m2 := el_at (f := RFl.cells) (fun _ => rfl) ra hx hn 2 (by decide)
  simp [RFl.cells, hbv, hpl] at m0 m1 m2
  rw [hva, ha2, ha3, ha4] at x0 HW0
  have HBV := Lib.hid hbv
  have HPL := Lib.hid hpl
  have HN := Lib.hid hn
  clear R S b0 hW0 ha1 ha2 ha3 ha4 hval hva hn hbv hpl ra hx hfl hxm
  rw [HVAL.out] at HF ⊢
  obtain ⟨i0, i1, i2, i3, fi⟩ := cells4 x0
  go_enter Try.func47, Try.ntmps47
  go_wp2_with fail
  rw [← HW0.out]
  refine HF.out.mono ?_
  rintro e Wf ⟨rfl, hb1⟩
  have y0 := old_box x0 hb1 (by omega)
  have y1 := old_box x1 hb1 (by omega)
  have y2 := old_box x2 hb1 (by omega)
  clear i0 i1 i2 i3 fi
  obtain ⟨i0, i1, i2, i3, fi⟩ := cells4 y0
  obtain ⟨ia0, ia1, ia2, ia3, fia⟩ := cells4a y0
  have bf : Below w.heap.size w Wf := HB0.out.trans (hb1.mono (by omega))
  have m0 := bcells bf hgl m0
  have m1 := bcells bf hgl m1
  have m2 := bcells bf hgl m2
  have hzf := hb1.size
  obtain ⟨Wp, hWp⟩ : ∃ Wp, Wp = Wf.alloc (.cells #[.string x.p.frm, .string x.p.to, .slice pa pl pc] 35) := ⟨_, rfl⟩
  have bp : Below Wf.heap.size Wf Wp := by rw [hWp]; exact (Below.refl _ _).alloc (Nat.le_refl _) _
  have xp : Wp.heap[Wf.heap.size]? = some (.cells #[.string x.p.frm, .string x.p.to, .slice pa pl pc] 35 (0, 0)) := by rw [hWp]; exact new_at rfl
  have zp : Wp.heap.size = Wf.heap.size + 1 := by rw [hWp]; simp
  have bwp : Below w.heap.size w Wp := bf.trans (bp.mono (by omega))
  have HBK := Lib.hid (blocked_any N Wp (HR.out.below bwp) HS.out x.p.frm x.p.to)
  rw [BLK, HVAL.out] at HBK
  have HWp := Lib.hid hWp
  have HBWP := Lib.hid bwp
  have y0 := old_box y0 bp (by omega)
  have y1 := old_box y1 bp (by omega)
  have y2 := old_box y2 bp (by omega)
  have HZ := Lib.hid z0
  clear hb1 hWp bp bf z0 bwp
  go_wp2_with fail
  rw [← HWp.out]
  refine HBK.out.mono ?_
  rintro e Wb ⟨rfl, hb2⟩
  have hzb := hb2.size
  have hz0 := HZ.out
  have y0 := old_box y0 hb2 (by omega)
  have y1 := old_box y1 hb2 (by omega)
  have y2 := old_box y2 hb2 (by omega)
  have xp := old_box xp hb2 (by omega)
  clear i0 i1 i2 i3 fi ia0 ia1 ia2 ia3 fia m0 m1 m2
  obtain ⟨i0, i1, i2, i3, fi⟩ := cells4 y0
  obtain ⟨l0, l1, l2, l3, fl⟩ := cells4 y1
  obtain ⟨j0, j1, j2, fj⟩ := cells3 y2
  have HB2 := Lib.hid hb2
  clear hb2
  go_wp2_with fail
  exact bodyPost_ret (v := .tuple #[.agg #[.slice (some ⟨g0, 0, none⟩) n c0, .slice a2 n2 k2, .slice a3 n3 k3, .slice a4 n4 k4], .agg #[.string { data := #[] }, .string { data := #[] }, .slice none 0 0], .int .i64 8]) (by simp [results, Try.results47, go_sem, l0, l1, l2, l3, j0, j1, j2]) rfl
    (HT.out _ _ HVAL.out.symm (((((HBWP.out.trans (HB2.out.mono (by omega))).trans (box4_below (by omega) _ _ _ _)).setCell (p := ⟨_, _, _⟩) (by simp; omega) _).setCell (p := ⟨_, _, _⟩) (by simp; omega) _).setCell (p := ⟨_, _, _⟩) (by simp; omega) _))
end Go.Proofs.Ytiindnmelegkgaa
end
