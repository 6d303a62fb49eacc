/- Genuine of a packet without a source; History and its iterator. -/
import Derived.Test.YtiindnmelegkgaaP2
import Derived.Test.YtiindnmelegkgaaRng
import Derived.Test.YtiindnmelegkgaaBarIn
section
namespace Go.Proofs.Ytiindnmelegkgaa
open Go.RowKit Go.Shelf
set_option linter.unusedSimpArgs false
set_option linter.unusedVariables false
attribute [local go_sem] Oper.semAt_some

set_option maxHeartbeats 1000000 in
set_option maxRecDepth 100000 in
theorem genuine_neg {ρ : Nat → Nat} {w : World} {p : Nat} {N : Net} (R : Rep ρ w p N) (S : Small N) {id : Int} {i : Nat} {x : Fl} (h : Hits N.fl id i x) (hk : x.src < 0) :
    Calls Try.prog 16 #[.pointer (some ⟨p, 0, none⟩), .int .i64 id] w fun e w' => e = .returned (.tuple #[.bool false, .int .i64 0]) ∧ Below w.heap.size w w' := by
  have HC := Lib.hid (index_hit R S h)
  have HR := Lib.hid R
  have HX := Lib.hid h.1
  have hil : i < N.fl.length := (List.getElem?_eq_some_iff.1 h.1).1
  obtain ⟨g, cap, cur, hvf, -⟩ := row_addr R.f (by omega)
  obtain ⟨n, hn⟩ : ∃ n, N.fl.length = n := ⟨_, rfl⟩
  obtain ⟨ba, bc, hbv⟩ := ownB_slice (R.fb x (List.mem_of_getElem? h.1))
  obtain ⟨l, hl⟩ : ∃ l, x.p.bs.length = l := ⟨_, rfl⟩
  rw [hl] at hbv
  rw [hn] at hvf hil
  clear R S h
  go_enter Try.func16, Try.ntmps16
  go_wp2_with fail
  refine HC.out.mono ?_
  rintro e w1 ⟨rfl, hb⟩
  have R1 := HR.out.below hb
  obtain ⟨c0, c1, c2, c3, c4, fr⟩ := net_cells R1
  rw [hvf] at c0
  have rf1 := R1.f
  rw [hvf, hn] at rf1
  have m0 := fl_at rf1 HX.out hn 0 (by decide)
  have m1 := fl_at rf1 HX.out hn 1 (by decide)
  have m2 := fl_at rf1 HX.out hn 2 (by decide)
  have m3 := fl_at rf1 HX.out hn 3 (by decide)
  have m4 := fl_at rf1 HX.out hn 4 (by decide)
  simp [Fl.cells, hbv] at m0 m1 m2 m3 m4
  have HB := Lib.hid hb
  have hz := hb.size
  clear c1 c2 c3 c4 fr rf1 R1 hb hbv hvf
  go_wp2_with fail
  obtain ⟨W2, hW2⟩ : ∃ W2, W2 = w1.alloc (.cells #[.string x.p.frm, .string x.p.to, .slice ba l bc, .int .i64 x.id, .int .i64 x.src] 81) := ⟨_, rfl⟩
  have b2 : Below w1.heap.size w1 W2 := by rw [hW2]; exact (Below.refl _ _).alloc (Nat.le_refl _) _
  have x2 : W2.heap[w1.heap.size]? = some (.cells #[.string x.p.frm, .string x.p.to, .slice ba l bc, .int .i64 x.id, .int .i64 x.src] 81 (0, 0)) := by rw [hW2]; exact new_at rfl
  have z2 : W2.heap.size = w1.heap.size + 1 := by rw [hW2]; simp
  have HF : Hid (∀ ww, Below W2.heap.size W2 ww → ww.cell? ⟨w1.heap.size, 4, none⟩ = some (.int .i64 x.src)) := Lib.hid fun ww hww => bcells hww (by omega) (by rw [cell_of_row _ _ _ _ _ _ x2]; rfl)
  have HB2 := Lib.hid (HB.out.trans (b2.mono hz))
  rw [← hW2]
  have HZ2 := Lib.hid z2
  clear z2 hW2 b2 x2 m0 m1 m2 m3 m4 c0
  have e0 : decide (0 ≤ x.src) = false := by simp; omega
  refine wp_region_grow (by kernel_rfl) (by kernel_rfl) ?_
  (refine grow_step rfl ?_; apply Exists.intro; refine ⟨fun ww hww => ?_, ?_⟩; (focus (unfold calmAt calmUpon; go_simp; first | rfl | exact ⟨rfl, hww⟩)); (simp only [Act.put, List.setIfInBounds_toArray, List.set_cons_succ, List.set_cons_zero]))
  (refine grow_step rfl ?_; apply Exists.intro; refine ⟨fun ww hww => ?_, ?_⟩; (focus (have cc := HF.out ww hww; unfold calmAt calmUpon; go_simp; first | rfl | exact ⟨rfl, hww⟩)); (simp only [Act.put, List.setIfInBounds_toArray, List.set_cons_succ, List.set_cons_zero]))
  iterate 2 (refine grow_step rfl ?_; apply Exists.intro; refine ⟨fun ww hww => ?_, ?_⟩; (focus (unfold calmAt calmUpon; go_simp; first | rfl | exact ⟨rfl, hww⟩)); (simp only [Act.put, List.setIfInBounds_toArray, List.set_cons_succ, List.set_cons_zero]))
  iterate 11 (refine grow_skip rfl ?_; (simp only [Act.put, List.setIfInBounds_toArray, List.set_cons_succ, List.set_cons_zero]))
  iterate 3 (refine grow_step rfl ?_; apply Exists.intro; refine ⟨fun ww hww => ?_, ?_⟩; (focus (unfold calmAt calmUpon; go_simp; first | rfl | exact ⟨rfl, hww⟩)); (simp only [Act.put, List.setIfInBounds_toArray, List.set_cons_succ, List.set_cons_zero]))
  refine calm_nil ?_
  intro ww hww
  go_wp2
  go_ret2
  exact ⟨by simp [e0], HB2.out.trans (hww.mono (by have := HZ2.out; omega))⟩

theorem eqNil25 (w : World) (a : Option Addr) (n c n' c' : Nat) : (binOp .eql 25 (.slice a n c) (.slice none n' c')).run Try.prog w = .ok (.bool a.isNone) w := Lib.run_eql_slice_nil w 25 35 a n c n' c' (by kernel_rfl)
theorem eqNil24 (w : World) (a : Option Addr) (n c n' c' : Nat) : (binOp .eql 24 (.slice a n c) (.slice none n' c')).run Try.prog w = .ok (.bool a.isNone) w := Lib.run_eql_slice_nil w 24 81 a n c n' c' (by kernel_rfl)

theorem clone52 (w : World) (v : Value) (l : List Pk) (hown : w.ownsRow 0 35 3 v l.length (l.flatMap Pk.cells)) (h1 : ∀ x ∈ l, x.bv.oneCell' = true) (hn : l.length ≤ 1073741824) :
    ∃ v' w', w'.ownsRow 0 35 3 v' l.length (l.flatMap Pk.cells) ∧ (∀ b, v'.ownBlock = some b → w.heap.size ≤ b) ∧ Below w.heap.size w w' ∧ Calls Try.prog 52 #[v] w fun e w'' => e = .returned v' ∧ w' = w'' := by
  have q := eqNil25
  rcases hown.2 with ⟨rfl, h0⟩ | ⟨g, cap, cur, rfl, _⟩
  · refine ⟨_, w, hown, by simp [Value.ownBlock], Below.refl _ _, ?_⟩
    clear hown
    go_enter Try.func52, Try.ntmps52
    go_wp2
    go_ret
    exact ⟨rfl, rfl⟩
  · obtain ⟨v', w', hrun, ho, hb⟩ := clone_run w 25 35 _ 3 56 u25 info35 rfl (by decide) (by decide) g l.length cap _ hown (fun u hu => by
      obtain ⟨x, hx, hu⟩ := List.mem_flatMap.1 hu
      exact pk_one x (h1 x hx) u hu) hn
    refine ⟨v', w', row_mono ho, fun b hb => (ho.lt b hb).1, hb, ?_⟩
    have HR := Lib.hid hrun
    clear hrun ho hb hown h1
    generalize l.length = n at *
    go_enter Try.func52, Try.ntmps52
    go_wp2_with (at_builtin; refine wpList_append_run rfl (.tmp 5) (.tmp 6) 25 rfl _ _ rfl rfl HR.out ?_)
    go_ret
    exact ⟨rfl, rfl⟩
theorem clone42 (w : World) (v : Value) (l : List Fl) (hown : w.ownsRow 0 81 5 v l.length (l.flatMap Fl.cells)) (h1 : ∀ x ∈ l, x.p.bv.oneCell' = true) (hn : l.length ≤ 1073741824) :
    ∃ v' w', w'.ownsRow 0 81 5 v' l.length (l.flatMap Fl.cells) ∧ (∀ b, v'.ownBlock = some b → w.heap.size ≤ b) ∧ Below w.heap.size w w' ∧ Calls Try.prog 42 #[v] w fun e w'' => e = .returned v' ∧ w' = w'' := by
  have q := eqNil24
  rcases hown.2 with ⟨rfl, h0⟩ | ⟨g, cap, cur, rfl, _⟩
  · refine ⟨_, w, hown, by simp [Value.ownBlock], Below.refl _ _, ?_⟩
    clear hown
    go_enter Try.func42, Try.ntmps42
    go_wp2
    go_ret
    exact ⟨rfl, rfl⟩
  · obtain ⟨v', w', hrun, ho, hb⟩ := clone_run w 24 81 _ 5 72 u24 info81 rfl (by decide) (by decide) g l.length cap _ hown (fun u hu => by
      obtain ⟨x, hx, hu⟩ := List.mem_flatMap.1 hu
      exact fl_one x (h1 x hx) u hu) hn
    refine ⟨v', w', row_mono ho, fun b hb => (ho.lt b hb).1, hb, ?_⟩
    have HR := Lib.hid hrun
    clear hrun ho hb hown h1
    generalize l.length = n at *
    go_enter Try.func42, Try.ntmps42
    go_wp2_with (at_builtin; refine wpList_append_run rfl (.tmp 5) (.tmp 6) 24 rfl _ _ rfl rfl HR.out ?_)
    go_ret
    exact ⟨rfl, rfl⟩

/-- An iterator over a history: the box of its list. -/
structure HiSeq (w' : World) (base : Nat) (l : List Pk) (B : Nat) (v : Value) : Prop where
  box : w'.heap[B]? = some (.cells #[v] 25 (0, 0))
  hB : base ≤ B
  row : w'.ownsRow 0 35 3 v l.length (l.flatMap Pk.cells)
  far : ∀ b, v.ownBlock = some b → base ≤ b
theorem history_any {ρ : Nat → Nat} {w : World} {p : Nat} {N : Net} (R : Rep ρ w p N) (S : Small N) :
    Calls Try.prog 28 #[.pointer (some ⟨p, 0, none⟩)] w fun e w' => (∃ B v, e = .returned (.func (.func 53) #[] #[.pointer (some ⟨B, 0, none⟩)]) ∧ HiSeq w' w.heap.size N.hist B v) ∧ Below w.heap.size w w' := by
  have b0 : Below w.heap.size w (w.alloc (.cells #[.slice none 0 0] 25)) := (Below.refl _ _).alloc (Nat.le_refl _) _
  have R0 := R.below b0
  obtain ⟨c0, c1, c2, c3, c4, fr⟩ := net_cells R0
  obtain ⟨v', w', ho, hf, hb, call⟩ := clone52 _ N.vh N.hist R0.h (fun x hx => ownB_one (R0.hb x hx)) (by have := S.hist; omega)
  have z0 : (w.alloc (.cells #[.slice none 0 0] 25)).heap.size = w.heap.size + 1 := by simp
  have x0 : w'.heap[w.heap.size]? = some (.cells #[.slice none 0 0] 25 (0, 0)) := (hb.block _ (by omega)).trans (new_at rfl)
  obtain ⟨va, vc, hv⟩ := row_slice ho
  have END : Hid (∀ w2, w2 = w'.setCell ⟨w.heap.size, 0, none⟩ v' → (∃ B v, Ending.returned (.func (.func 53) #[] #[.pointer (some ⟨w.heap.size, 0, none⟩)]) = .returned (.func (.func 53) #[] #[.pointer (some ⟨B, 0, none⟩)]) ∧ HiSeq w2 w.heap.size N.hist B v) ∧ Below w.heap.size w w2) := Lib.hid fun w2 h2 => by
    refine ⟨⟨w.heap.size, v', rfl, ?_, Nat.le_refl _, row_stays ho fun b hb => ?_, fun b hb => by have := hf b hb; omega⟩, ?_⟩
    · rw [h2]; exact set_at x0
    · rw [h2]; exact set_other (by have := hf b hb; show b ≠ w.heap.size; omega)
    · rw [h2]; exact (b0.trans (hb.mono (by omega))).setCell (p := ⟨_, _, _⟩) (Nat.le_refl _) _
  have HC := Lib.hid call
  have m0 : w'.cell? ⟨w.heap.size, 0, none⟩ = some (.slice none 0 0) := by rw [cell_of_row _ _ _ _ _ _ x0]; rfl
  have f0 := frozen_blk x0 0
  rw [hv] at HC END
  generalize N.hist.length = n at *
  clear R S R0 c0 c2 c3 c4 fr ho hf hb call b0 z0 hv x0
  go_enter Try.func28, Try.ntmps28
  go_wp2_with fail
  refine HC.out.mono ?_
  rintro e w1 ⟨rfl, rfl⟩
  go_wp2_with fail
  go_ret
  exact END.out _ rfl

/-! ### The iterator -/
def upP (H : List APk) (k : Nat) : List (Nat × APk) := (List.range k).map fun j => (j, H.getD j zeroA)
theorem upP_succ (H : List APk) (k : Nat) : upP H (k + 1) = upP H k ++ [(k, H.getD k zeroA)] := by simp [upP, List.range_succ]
theorem upP_length (H : List APk) (k : Nat) : (upP H k).length = k := by simp [upP]
def encP (x : Nat × Pk) : Array Value := #[.int .i64 (x.1 : Int), x.2.val]
def absP (x : Nat × Pk) : Nat × APk := (x.1, x.2.abs)
/-- What is handed out: the next one's number, its text, its bytes in a row laid just now. -/
def PxH (base : Nat) (H : List APk) (pre : List (Nat × Pk)) (x : Nat × Pk) (W : World) : Prop := absP x = (pre.length, H.getD pre.length zeroA) ∧ ownB W x.2.bv x.2.bs ∧ (∀ b, x.2.bv.ownBlock = some b → base ≤ b) ∧ pre.map absP = upP H pre.length
/-- What a round must keep. -/
def KpS (S : Nat → Prop) (W W' : World) : Prop := W.heap.size ≤ W'.heap.size ∧ ∀ k, S k → W'.heap[k]? = W.heap[k]?
theorem KpS.refl (S : Nat → Prop) (W : World) : KpS S W W := ⟨Nat.le_refl _, fun _ _ => rfl⟩
theorem KpS.trans {S : Nat → Prop} {A B C : World} (h : KpS S A B) (k : KpS S B C) : KpS S A C := ⟨Nat.le_trans h.1 k.1, fun j e => (k.2 j e).trans (h.2 j e)⟩
theorem KpS.put {S : Nat → Prop} {w : World} (hb : ∀ k, S k → k < w.heap.size) (W : World) (l : Nat) (o o' : Obj) (hl : w.heap.size ≤ l) (h : W.heap[l]? = some o) (_ : o.isCells = false) (_ : o.isWalk = false) : KpS S W (W.putObj l o') := by
  have hg := grownBy_putObj' W l o'
  refine ⟨hg.size, fun k e => hg.block k ?_ (fun e' => ?_)⟩
  · have := hb k e
    have := (Array.getElem?_eq_some_iff.1 h).1
    omega
  · cases e'
    have := hb _ e
    omega
theorem KpS.of_below {S : Nat → Prop} {n : Nat} {W W' : World} (h : Below n W W') (hs : ∀ k, S k → k < n) : KpS S W W' := ⟨h.size, fun k hk => h.block k (hs k hk)⟩
/-- The blocks that an iterator over a history reads. -/
def SH (v : Value) (l : List Pk) (k : Nat) : Prop := v.ownBlock = some k ∨ ∃ q ∈ l, q.bv.ownBlock = some k

set_option maxRecDepth 100000 in
set_option maxHeartbeats 4000000 in
theorem hist53_in (n : Nat) (l Bs b cap len base : Nat) (hi : List Pk) (hlen : hi.length = len) (hreach : len ≤ 1000000) (J Jx : List (Nat × Pk) → World → Prop)
    (hJ : ∀ s A B row, J s A → A.grownBy B row → (row = none) → J s B)
    (hY : ∀ pre x W, J pre W → PxH base (hi.map Pk.abs) pre x W → pre.length < len → YieldAt Fence.wide (n - 1) Try.prog l (encP x) W fun e W' =>
      (e = .returned (.bool true) ∧ J (pre ++ [x]) W' ∧ KpS (SH (.slice (some ⟨b, 0, none⟩) len cap) hi) W W') ∨ (e = .returned (.bool false) ∧ Jx (pre ++ [x]) W'))
    (W : World) (hBs : W.cell? ⟨Bs, 0, none⟩ = some (.slice (some ⟨b, 0, none⟩) len cap)) (hc : W.ownsRow 0 35 3 (.slice (some ⟨b, 0, none⟩) len cap) len (hi.flatMap Pk.cells)) (hbs : ∀ q ∈ hi, ownB W q.bv q.bs) (hok : ∀ q ∈ hi, q.bs.length ≤ 65536) (hbase : base ≤ W.heap.size) (h0 : J [] W) :
    CallsIn Fence.wide n Try.prog 53 #[.func (.yield l) #[] #[], .pointer (some ⟨Bs, 0, none⟩)] W fun e W' => (∃ v, e = .returned v) ∧
      ((∃ ys, ys.map absP = upP (hi.map Pk.abs) len ∧ J ys W') ∨ (∃ pre, (∃ k, k ≤ len ∧ pre.map absP = upP (hi.map Pk.abs) k) ∧ Jx pre W')) := by
  refine callsIn_of_wp Try.func53 rfl trivial ?_ rfl
  simp only [Try.ntmps53, List.size_toArray, List.length_cons, List.length_nil, Nat.reduceAdd, Nat.reduceSub, Array.replicate_succ, Array.replicate_zero, List.push_toArray, List.append_toArray, List.nil_append, List.cons_append]
  have HE := Lib.hid hlen
  have HC := Lib.hid hc
  have HJ := Lib.hid hJ
  have HBB := Lib.hid hbs
  have HOK := Lib.hid hok
  have HYY := Lib.hid hY
  clear hlen hc hJ hbs hok hY
  gi_wp2
  gi_loopw [7] (fun i wr => ∃ (k : Nat) (pre : List (Nat × Pk)), k ≤ len ∧ i = .int .i64 k ∧ pre.length = k ∧ pre.map absP = upP (hi.map Pk.abs) k ∧ J pre wr ∧ KpS (SH (.slice (some ⟨b, 0, none⟩) len cap) hi) W wr)
    (fun i _ => len - (intOf i).toNat)
  case atStart => exact ⟨0, [], Nat.zero_le _, rfl, rfl, rfl, h0, KpS.refl _ _⟩
  case round =>
    obtain ⟨k, pre, hk, rfl, hpl, hpre, hJs, hnx⟩ := hrel
    by_cases hlt : k < len
    · have hrow : wr.ownsRow 0 35 3 (.slice (some ⟨b, 0, none⟩) len cap) len (hi.flatMap Pk.cells) := row_stays HC.out fun b' hb' => hnx.2 b' (.inl hb')
      obtain ⟨q, hq⟩ : ∃ q, hi[k]? = some q := ⟨hi[k]'(by rw [HE.out]; exact hlt), List.getElem?_eq_getElem _⟩
      have hqm := List.mem_of_getElem? hq
      obtain ⟨ba, bc, hbv⟩ := ownB_slice (HBB.out q hqm)
      obtain ⟨bl, hbl⟩ : ∃ l, q.bs.length = l := ⟨_, rfl⟩
      rw [hbl] at hbv
      have m0 := el_at (f := Pk.cells) (fun _ => rfl) hrow hq HE.out 0 (by decide)
      have m1 := el_at (f := Pk.cells) (fun _ => rfl) hrow hq HE.out 1 (by decide)
      have m2 := el_at (f := Pk.cells) (fun _ => rfl) hrow hq HE.out 2 (by decide)
      simp [Pk.cells, hbv] at m0 m1 m2
      obtain ⟨W1, hW1⟩ : ∃ W1, W1 = wr.alloc (.cells #[.string q.frm, .string q.to, .slice ba bl bc] 35) := ⟨_, rfl⟩
      have b1 : Below wr.heap.size wr W1 := by rw [hW1]; exact (Below.refl _ _).alloc (Nat.le_refl _) _
      have rq : rdB W1 q.bv q.bs := ownB_rd (row_stays (w := wr) (row_stays (HBB.out q hqm) fun b' hb' => hnx.2 b' (.inr ⟨q, hqm, hb'⟩)) fun b' hb' => b1.block b' (by have := ((HBB.out q hqm).lt b' hb').2; have := hnx.1; omega)) (by have := HOK.out q hqm; omega)
      obtain ⟨bv, W2, o2, f2, b2, call2⟩ := own_any q W1 rq
      obtain ⟨ca, cc, hbv2⟩ := ownB_slice o2
      rw [hbl] at hbv2
      have z1 := b1.size
      have hg2 : wr.grownBy W2 none := ⟨b2.os.trans b1.os, b2.tape.trans b1.tape, b2.output.trans b1.output, Nat.le_trans z1 b2.size, fun k hk _ => (b2.block k (by omega)).trans (b1.block k hk)⟩
      have hJ2 := HJ.out pre wr W2 none hJs hg2 rfl
      have hget : (hi.map Pk.abs).getD k zeroA = q.abs := by simp [List.getD, hq]
      have px : PxH base (hi.map Pk.abs) pre (k, { q with bv := bv }) W2 := ⟨by rw [hpl, hget]; rfl, o2, fun b' hb' => by have := f2 b' hb'; have := hnx.1; omega, by rw [hpl]; exact hpre⟩
      obtain ⟨fn, tmps, assign, body, hy, hR⟩ := HYY.out _ (k, { q with bv := bv }) _ hJ2 px (by omega)
      unfold encP Pk.val at hy
      dsimp only at hy
      rw [hbv2] at hy
      have kp2 : KpS (SH (.slice (some ⟨b, 0, none⟩) len cap) hi) W W2 := hnx.trans ⟨hg2.size, fun j hj => hg2.block j (by
        have hWl : j < W.heap.size := by
          rcases hj with hj | ⟨q', hq', hj⟩
          · exact (HC.out.lt j hj).2
          · exact ((HBB.out q' hq').lt j hj).2
        have := hnx.1
        omega) (by simp)⟩
      have KP := Lib.hid kp2
      unfold Pk.val at call2
      rw [hbv, hbv2] at call2
      have HCL : Hid (CallsIn Fence.wide (n - 1) Try.prog 35 #[.agg #[.string q.frm, .string q.to, .slice ba bl bc]] W1 fun e w'' => e = .returned (.agg #[.string q.frm, .string q.to, .slice ca bl cc]) ∧ W2 = w'') := Lib.hid (callsIn_wide.2 call2)
      rw [hW1] at HCL
      have HPRE : Hid ((pre ++ [(k, { q with bv := bv })]).map absP = upP (hi.map Pk.abs) (k + 1)) := Lib.hid (by
        rw [List.map_append, hpre, upP_succ, hget]; rfl)
      have HPL := Lib.hid hpl
      clear hrow kp2 px hget hg2 b2 o2 f2 b1 hW1 call2 rq hbv2 hpre hpl hq hJs hJ2
      gi_wp2_with fail
      refine ⟨trivial, fun h => (by simp [Fence.wide] at h), HCL.out.mono ?_⟩
      rintro e W2' ⟨rfl, rfl⟩
      gi_wp2_with fail
      refine ⟨fun h => (by simp [Fence.wide] at h), hR.mono ?_⟩
      rintro e W3 (⟨rfl, hJ3, hk3⟩ | ⟨rfl, hJx3⟩)
      · gi_wp2
        go_roundw
        case rel => exact ⟨k + 1, _, by omega, by simp, by simp [HPL.out], HPRE.out, hJ3, KP.out.trans hk3⟩
        case measure => simp [intOf]; omega
      · gi_wp2
        refine bodyPost_ret (results_none rfl _ _ _) rfl ?_
        exact ⟨⟨_, rfl⟩, .inr ⟨_, ⟨k + 1, by omega, HPRE.out⟩, hJx3⟩⟩
    · obtain rfl : k = len := by omega
      gi_wp2
      go_end0
      exact ⟨⟨_, rfl⟩, .inl ⟨pre, hpre, hJs⟩⟩
end Go.Proofs.Ytiindnmelegkgaa
end
/- The iterator over a history, as a contract; Flight. -/
section
namespace Go.Proofs.Ytiindnmelegkgaa
open Go.RowKit Go.Shelf
set_option linter.unusedSimpArgs false
set_option linter.unusedVariables false
attribute [local go_sem] Oper.semAt_some

set_option maxRecDepth 100000 in
set_option maxHeartbeats 1000000 in
theorem hist53_nil (n : Nat) (l Bs : Nat) (J : List (Nat × Pk) → World → Prop) (W : World) (hBs : W.cell? ⟨Bs, 0, none⟩ = some (.slice none 0 0)) (h0 : J [] W) :
    CallsIn Fence.wide n Try.prog 53 #[.func (.yield l) #[] #[], .pointer (some ⟨Bs, 0, none⟩)] W fun e W' => (∃ v, e = .returned v) ∧ J [] W' := by
  refine callsIn_of_wp Try.func53 rfl trivial ?_ rfl
  simp only [Try.ntmps53, List.size_toArray, List.length_cons, List.length_nil, Nat.reduceAdd, Nat.reduceSub, Array.replicate_succ, Array.replicate_zero, List.push_toArray, List.append_toArray, List.nil_append, List.cons_append]
  gi_wp2
  gi_loopw [7] (fun i wr => i = .int .i64 0 ∧ J [] wr) (fun _ _ => 0)
  case atStart => exact ⟨rfl, h0⟩
  case round =>
    obtain ⟨rfl, hJs⟩ := hrel
    gi_wp2
    go_end0
    exact ⟨⟨_, rfl⟩, hJs⟩

theorem hist53_px (n : Nat) (Bs base : Nat) (v : Value) (hi : List Pk) (w : World) (hreach : hi.length ≤ 1000000) (hBs : w.heap[Bs]? = some (.cells #[v] 25 (0, 0))) (hI : w.ownsRow 0 35 3 v hi.length (hi.flatMap Pk.cells)) (hb : ∀ q ∈ hi, ownB w q.bv q.bs) (hok : ∀ q ∈ hi, q.bs.length ≤ 65536) (hbase : base ≤ w.heap.size) :
    SeqPx Fence.wide n Try.prog 53 #[.pointer (some ⟨Bs, 0, none⟩)] encP (PxH base (hi.map Pk.abs)) (KpS (SH v hi)) (fun ys => ys.map absP = upP (hi.map Pk.abs) hi.length) (fun pre => ∃ k, k ≤ hi.length ∧ pre.map absP = upP (hi.map Pk.abs) k) hi.length w := fun l J Jx W hW hJ _ hY h0 => by
  have hc' : W.cell? ⟨Bs, 0, none⟩ = some v := by
    have h := (hW.block Bs (Array.getElem?_eq_some_iff.1 hBs).1).trans hBs
    rw [cell_of_row _ _ _ _ _ _ h]; rfl
  have hI' : W.ownsRow 0 35 3 v hi.length (hi.flatMap Pk.cells) := row_stays hI fun b hb => hW.block b (hI.lt b hb).2
  have hb' : ∀ q ∈ hi, ownB W q.bv q.bs := fun q hq => row_stays (hb q hq) fun b h => hW.block b ((hb q hq).lt b h).2
  rcases hI'.2 with ⟨rfl, h0'⟩ | ⟨b, cap, cur, rfl, _⟩
  · have he : hi = [] := List.length_eq_zero_iff.1 h0'
    subst he
    exact (hist53_nil n l Bs J W hc' h0).mono fun e W' ⟨he, hj⟩ => ⟨he, .inl ⟨[], rfl, hj⟩⟩
  · exact hist53_in n l Bs b cap hi.length base hi rfl hreach J Jx (fun s A B row hs hg hr => hJ s A B row hs hg (fun r e => by rw [hr] at e; cases e)) hY W hc' hI' hb' hok (Nat.le_trans hbase hW.size) h0

/-! ### Flight -/
/-- After k rounds each of the first k packets has bytes of its own. -/
structure FlOwn (w wr : World) (l done rest : List Fl) (b : Nat) (cap len : Nat) (base : Nat) : Prop where
  below : Below base w wr
  row : wr.ownsRow 0 81 5 (.slice (some ⟨b, 0, none⟩) len cap) len ((done ++ rest).flatMap Fl.cells)
  split : l = l.take done.length ++ rest
  abs : done.map Fl.abs = (l.take done.length).map Fl.abs
  own : ∀ x ∈ done, ownB wr x.p.bv x.p.bs
  far : ∀ x ∈ done, ∀ c, x.p.bv.ownBlock = some c → base ≤ c ∧ c ≠ b

theorem flat_set3 (l : List Fl) (i : Nat) (x x' : Fl) (h : l[i]? = some x) (e : x' = { x with p := x'.p }) : (l.set i x').flatMap Fl.cells = (((l.flatMap Fl.cells).set (i * 5) (.string x'.p.frm)).set (i * 5 + 1) (.string x'.p.to)).set (i * 5 + 2) x'.p.bv := by
  obtain ⟨⟨xf, xt, xb, xs⟩, xi, xsr⟩ := x
  obtain ⟨⟨yf, yt, yb, ys⟩, yi, ysr⟩ := x'
  simp only [Fl.mk.injEq, true_and] at e
  obtain ⟨rfl, rfl⟩ := e
  have hl := (List.getElem?_eq_some_iff.1 h).1
  have h1 := flat_setR Fl.cells 5 (fun _ => rfl) l i ⟨⟨yf, xt, xb, xs⟩, yi, ysr⟩ 0 (.string yf) _ h (by decide) rfl
  have h2 := flat_setR Fl.cells 5 (fun _ => rfl) (l.set i ⟨⟨yf, xt, xb, xs⟩, yi, ysr⟩) i ⟨⟨yf, yt, xb, xs⟩, yi, ysr⟩ 1 (.string yt) _ (List.getElem?_set_self hl) (by decide) rfl
  have h3 := flat_setR Fl.cells 5 (fun _ => rfl) ((l.set i ⟨⟨yf, xt, xb, xs⟩, yi, ysr⟩).set i ⟨⟨yf, yt, xb, xs⟩, yi, ysr⟩) i ⟨⟨yf, yt, yb, ys⟩, yi, ysr⟩ 2 yb _ (List.getElem?_set_self (by simpa using hl)) (by decide) rfl
  simp only [List.set_set] at h2 h3
  rw [h3, h2, h1]
  simp

theorem FlOwn.next {w wr W2 W3 : World} {l done rest : List Fl} {b cap len base : Nat} {x : Fl} {bv : Value} (h : FlOwn w wr l done (x :: rest) b cap len base) (hbl : base ≤ b) (hb2 : Below wr.heap.size wr W2) (o2 : ownB W2 bv x.p.bs) (f2 : ∀ c, bv.ownBlock = some c → wr.heap.size ≤ c)
    (h3 : W3 = ((W2.setCell ⟨b, done.length * 5, none⟩ (.string x.p.frm)).setCell ⟨b, done.length * 5 + 1, none⟩ (.string x.p.to)).setCell ⟨b, done.length * 5 + 2, none⟩ bv) :
    FlOwn w W3 l (done ++ [{ x with p := { x.p with bv := bv } }]) rest b cap len base := by
  have hz := h.below.size
  have hbw : b < wr.heap.size := (h.row.lt b rfl).2
  have h2s := hb2.size
  have up : ∀ c, c ≠ b → W3.heap[c]? = W2.heap[c]? := fun c hc => by rw [h3, set_other hc, set_other hc, set_other hc]
  have hlen : done.length < len := by
    have h1 := h.row.1
    have hl : (done ++ x :: rest).length = len := by
      have e : ∀ l : List Fl, (l.flatMap Fl.cells).length = l.length * 5 := fun l => by
        induction l with
        | nil => rfl
        | cons y l ih => rw [List.flatMap_cons, List.length_append, ih, List.length_cons, Nat.succ_mul, Nat.add_comm]; rfl
      rw [e] at h1
      omega
    simp at hl
    omega
  have r2 := row_stays (w' := W2) h.row fun c hc => hb2.block c (by rw [ob_eq hc]; exact hbw)
  have r3 := row_set (row_set (row_set r2 (done.length * 5) (.string x.p.frm) (by omega)) (done.length * 5 + 1) (.string x.p.to) (by omega)) (done.length * 5 + 2) bv (by omega)
  rw [← h3] at r3
  have hx : (done ++ x :: rest)[done.length]? = some x := by simp
  rw [← flat_set3 (done ++ x :: rest) done.length x { x with p := { x.p with bv := bv } } hx rfl] at r3
  have hset : (done ++ x :: rest).set done.length { x with p := { x.p with bv := bv } } = (done ++ [{ x with p := { x.p with bv := bv } }]) ++ rest := by
    rw [List.set_append_right _ _ (Nat.le_refl _)]
    simp
  rw [hset] at r3
  have hl : l[done.length]? = some x := by
    rw [h.split]
    have : (l.take done.length).length = done.length := by
      have := congrArg List.length h.abs
      simp at this ⊢
      omega
    rw [List.getElem?_append_right (by omega), this]
    simp
  refine ⟨?_, r3, ?_, ?_, ?_, ?_⟩
  · rw [h3]
    exact (((h.below.trans (hb2.mono (by have := h.below.size; omega))).setCell (p := ⟨_, _, _⟩) hbl _).setCell (p := ⟨_, _, _⟩) hbl _).setCell (p := ⟨_, _, _⟩) hbl _
  · have h1 := h.split
    rw [List.length_append, List.length_singleton, List.take_add_one, hl]
    simp
    simpa using h1
  · rw [List.length_append, List.length_singleton, List.take_add_one, hl, List.map_append, List.map_append, h.abs]
    rfl
  · intro y hy
    rcases List.mem_append.1 hy with hy | hy
    · exact row_stays (h.own y hy) fun c hc => by rw [up c (h.far y hy c hc).2, hb2.block c ((h.own y hy).lt c hc).2]
    · simp at hy; subst hy
      exact row_stays o2 fun c hc => up c (by have := f2 c hc; omega)
  · intro y hy c hc
    rcases List.mem_append.1 hy with hy | hy
    · exact h.far y hy c hc
    · simp at hy; subst hy
      have := f2 c hc
      exact ⟨by omega, by omega⟩
end Go.Proofs.Ytiindnmelegkgaa
end
/- Flight: the walk. -/
section
namespace Go.Proofs.Ytiindnmelegkgaa
open Go.RowKit Go.Shelf
set_option linter.unusedSimpArgs false
set_option linter.unusedVariables false

/-- An iterator over packets in flight: the box of its list. -/
structure FlSeq (w' : World) (base : Nat) (fl : List AFl) (B : Nat) (v : Value) (L : List Fl) : Prop where
  box : w'.heap[B]? = some (.cells #[v] 24 (0, 0))
  hB : base ≤ B
  row : w'.ownsRow 0 81 5 v L.length (L.flatMap Fl.cells)
  far : ∀ b, v.ownBlock = some b → base ≤ b
  abs : L.map Fl.abs = fl
  own : ∀ x ∈ L, ownB w' x.p.bv x.p.bs
  ofar : ∀ x ∈ L, ∀ b, x.p.bv.ownBlock = some b → base ≤ b

set_option maxHeartbeats 2000000 in
set_option maxRecDepth 100000 in
theorem flight_any {ρ : Nat → Nat} {w : World} {p : Nat} {N : Net} (R : Rep ρ w p N) (S : Small N) :
    Calls Try.prog 22 #[.pointer (some ⟨p, 0, none⟩)] w fun e w' => (∃ B v L, e = .returned (.func (.func 43) #[] #[.pointer (some ⟨B, 0, none⟩)]) ∧ FlSeq w' w.heap.size (N.fl.map Fl.abs) B v L) ∧ Below w.heap.size w w' := by
  have b0 : Below w.heap.size w (w.alloc (.cells #[.slice none 0 0] 24)) := (Below.refl _ _).alloc (Nat.le_refl _) _
  have R0 := R.below b0
  obtain ⟨c0, c1, c2, c3, c4, fr⟩ := net_cells R0
  obtain ⟨v', w', ho, hf, hb, call⟩ := clone42 _ N.vf N.fl R0.f (fun x hx => ownB_one (R0.fb x hx)) (by have := S.fl; omega)
  have z0 : (w.alloc (.cells #[.slice none 0 0] 24)).heap.size = w.heap.size + 1 := by simp
  have x0 : w'.heap[w.heap.size]? = some (.cells #[.slice none 0 0] 24 (0, 0)) := (hb.block _ (by omega)).trans (new_at rfl)
  obtain ⟨va, vc, hv⟩ := row_slice ho
  obtain ⟨n, hn⟩ : ∃ n, N.fl.length = n := ⟨_, rfl⟩
  have hsm := S.fl
  rw [hn] at hv hsm
  obtain ⟨w2, hw2⟩ : ∃ w2, w2 = w'.setCell ⟨w.heap.size, 0, none⟩ (.slice va n vc) := ⟨_, rfl⟩
  have up2 : ∀ b, b ≠ w.heap.size → w2.heap[b]? = w'.heap[b]? := fun b hb => by rw [hw2]; exact set_other hb
  have x2 : w2.heap[w.heap.size]? = some (.cells #[.slice va n vc] 24 (0, 0)) := by rw [hw2]; exact set_at x0
  have b2 : Below w.heap.size w w2 := by rw [hw2]; exact (b0.trans (hb.mono (by omega))).setCell (p := ⟨_, _, _⟩) (Nat.le_refl _) _
  have R2 := R.below b2
  have r2 : w2.ownsRow 0 81 5 (.slice va n vc) n (N.fl.flatMap Fl.cells) := by
    rw [hv] at ho
    rw [hn] at ho
    exact row_stays ho fun b hb' => up2 b (by have := hf b (by rw [hv]; exact hb'); omega)
  have HC := Lib.hid call
  have m0 : w'.cell? ⟨w.heap.size, 0, none⟩ = some (.slice none 0 0) := by rw [cell_of_row _ _ _ _ _ _ x0]; rfl
  have f0 := frozen_blk x0 0
  have HF : Hid (∀ b, (Value.slice va n vc).ownBlock = some b → w.heap.size + 1 ≤ b) := Lib.hid fun b hb => by have := hf b (by rw [hv]; exact hb); omega
  rw [hv] at HC
  have HW2 := Lib.hid hw2
  have HR2 := Lib.hid R2
  have HX2 := Lib.hid x2
  have HB2 := Lib.hid b2
  have HRR := Lib.hid r2
  have HN := Lib.hid hn
  have HFAR : Hid (∀ b, w.heap.size ≤ b → ρ b = 0) := Lib.hid R.far
  clear R S R0 c1 c2 c3 c4 fr ho hf hb call b0 z0 hv x0 hw2 up2 x2 b2 R2 r2 hn
  go_enter Try.func22, Try.ntmps22
  go_wp2_with fail
  refine HC.out.mono ?_
  rintro e w1 ⟨rfl, rfl⟩
  have o2 : w2.cell? ⟨w.heap.size, 0, none⟩ = some (.slice va n vc) := by rw [cell_of_row _ _ _ _ _ _ HX2.out]; rfl
  rw [HW2.out] at o2
  go_wp2_with fail
  rw [← HW2.out]
  rw [← HW2.out] at o2
  clear m0 f0 c0
  by_cases hz : n = 0
  · subst hz
    have hnil : N.fl = [] := List.length_eq_zero_iff.1 HN.out
    have END : Hid (∀ wr, wr = w2 → (∃ B v L, Ending.returned (.func (.func 43) #[] #[.pointer (some ⟨w.heap.size, 0, none⟩)]) = .returned (.func (.func 43) #[] #[.pointer (some ⟨B, 0, none⟩)]) ∧ FlSeq wr w.heap.size (N.fl.map Fl.abs) B v L) ∧ Below w.heap.size w wr) := Lib.hid fun wr hwr => by
      subst hwr
      refine ⟨⟨_, _, [], rfl, HX2.out, Nat.le_refl _, ?_, fun b hb => by have := HF.out b hb; omega, by rw [hnil], by simp, by simp⟩, HB2.out⟩
      have := HRR.out
      rw [hnil] at this
      exact this
    clear hnil
    go_loopw [14] (fun i wr => i = .int .i64 0 ∧ wr = w2) (fun _ _ => 0)
    case atStart => exact ⟨rfl, rfl⟩
    case round =>
      obtain ⟨rfl, hwr⟩ := hrel
      subst hwr
      go_wp2_with fail
      go_ret
      exact END.out _ rfl
  · have hnp : 0 < n := by omega
    obtain ⟨g, cap, hg⟩ := slice_box HRR.out hnp
    simp only [Value.slice.injEq, true_and] at hg
    obtain ⟨rfl, rfl⟩ := hg
    have hgw : w.heap.size + 1 ≤ g := HF.out g rfl
    go_loopw [14] (fun i wr => ∃ (k : Nat) (done rest : List Fl), k ≤ n ∧ i = .int .i64 k ∧ done.length = k ∧ FlOwn w wr N.fl done rest g vc n w.heap.size ∧ wr.heap[w.heap.size]? = some (.cells #[.slice (some ⟨g, 0, none⟩) n vc] 24 (0, 0)) ∧ Rep ρ wr p N) (fun i _ => n - (intOf i).toNat)
    case atStart => exact ⟨0, [], N.fl, Nat.zero_le _, rfl, rfl, ⟨HB2.out, HRR.out, by simp, rfl, by simp, by simp⟩, HX2.out, HR2.out⟩
    case round =>
      obtain ⟨k, done, rest, hk, rfl, hdl, hFO, hbx, hRw⟩ := hrel
      have ob : wr.cell? ⟨w.heap.size, 0, none⟩ = some (.slice (some ⟨g, 0, none⟩) n vc) := by rw [cell_of_row _ _ _ _ _ _ hbx]; rfl
      by_cases hlt : k < n
      · have hll : done.length + rest.length = n := by
          have h1 := congrArg List.length hFO.split
          have h2 : (N.fl.take done.length).length = done.length := by
            have := congrArg List.length hFO.abs
            simp at this ⊢
            omega
          rw [List.length_append, h2, HN.out] at h1
          omega
        obtain ⟨x, rest', rfl⟩ : ∃ x r, rest = x :: r := by
          cases rest with
          | nil => simp at hll; omega
          | cons x r => exact ⟨x, r, rfl⟩
        have hxm : x ∈ N.fl := by rw [hFO.split]; simp
        obtain ⟨ba, bc, hbv⟩ := ownB_slice (hRw.fb x hxm)
        obtain ⟨bl, hbl⟩ : ∃ l, x.p.bs.length = l := ⟨_, rfl⟩
        rw [hbl] at hbv
        have hx : (done ++ x :: rest')[k]? = some x := by rw [← hdl]; simp
        have hlen2 : (done ++ x :: rest').length = n := by simp; simp at hll; omega
        have rr := hFO.row
        have m0 := fl_at rr hx hlen2 0 (by decide)
        have m1 := fl_at rr hx hlen2 1 (by decide)
        have m2 := fl_at rr hx hlen2 2 (by decide)
        simp [Fl.cells, hbv] at m0 m1 m2
        have rq : rdB wr.drew x.p.bv x.p.bs := rdB_stays (ownB_rd (hRw.fb x hxm) (rd_len (hRw.fok x hxm))) (Nat.le_refl _) fun _ _ _ => rfl
        obtain ⟨bv, W2, o2', f2, b2, call2⟩ := own_any x.p wr.drew rq
        obtain ⟨ca, cc, hbv2⟩ := ownB_slice o2'
        rw [hbl] at hbv2
        have b2' : Below wr.heap.size wr W2 := ⟨b2.os, b2.tape, b2.output, b2.size, b2.block⟩
        have hgl : g < wr.heap.size := (rr.lt g rfl).2
        have r2' := row_stays (w' := W2) rr fun c hc => b2'.block c (by rw [ob_eq hc]; exact hgl)
        have n0 := fl_at r2' hx hlen2 0 (by decide)
        have n1 := fl_at r2' hx hlen2 1 (by decide)
        have n2 := fl_at r2' hx hlen2 2 (by decide)
        simp [Fl.cells, hbv] at n0 n1 n2
        have fz : ∀ j, W2.frozen? ⟨g, j, none⟩ = false := fun j => r2'.frozenAt j
        obtain ⟨W3, hW3⟩ : ∃ W3, W3 = ((W2.setCell ⟨g, k * 5, none⟩ (.string x.p.frm)).setCell ⟨g, k * 5 + 1, none⟩ (.string x.p.to)).setCell ⟨g, k * 5 + 2, none⟩ bv := ⟨_, rfl⟩
        have nx := hFO.next (W3 := W3) (by omega) b2' o2' f2 (by rw [hdl]; exact hW3)
        have bx3 : W3.heap[w.heap.size]? = some (.cells #[.slice (some ⟨g, 0, none⟩) n vc] 24 (0, 0)) := by
          rw [hW3, set_other (by show w.heap.size ≠ g; omega), set_other (by show w.heap.size ≠ g; omega), set_other (by show w.heap.size ≠ g; omega), b2'.block _ (by omega)]; exact hbx
        have bxd : wr.drew.heap[w.heap.size]? = some (.cells #[.slice (some ⟨g, 0, none⟩) n vc] 24 (0, 0)) := hbx
        have bx2 : W2.heap[w.heap.size]? = some (.cells #[.slice (some ⟨g, 0, none⟩) n vc] 24 (0, 0)) := (b2'.block _ (by omega)).trans hbx
        have hρ : ρ g = 0 := HFAR.out g (by omega)
        have R3 : Rep ρ W3 p N := hRw.stays (by rw [hW3]; simp; exact b2'.size) fun b hb => by
          have hne : b ≠ g := fun e => hb (by rw [e]; exact hρ)
          rw [hW3, set_other hne, set_other hne, set_other hne]
          exact b2'.block b (hRw.lt hb)
        have HNX := Lib.hid nx
        have HBX3 := Lib.hid bx3
        have HR3 := Lib.hid R3
        unfold Pk.val at call2
        rw [hbv, hbv2] at call2
        have HC2 := Lib.hid call2
        rw [hbv2] at hW3
        have HW3 := Lib.hid hW3
        have HDL := Lib.hid hdl
        clear nx bx3 R3 call2 hW3 hRw hFO rr r2' rq o2' f2 b2 b2' hll hx hlen2 hxm hdl hρ hbv hbv2
        have obd : wr.drew.cell? ⟨w.heap.size, 0, none⟩ = some (.slice (some ⟨g, 0, none⟩) n vc) := ob
        have ob2 : W2.cell? ⟨w.heap.size, 0, none⟩ = some (.slice (some ⟨g, 0, none⟩) n vc) := by rw [cell_of_row _ _ _ _ _ _ bx2]; rfl
        go_wp2_with fail
        refine wp_region_chain (wsq [wr.drew, W2, W3]) [7, 10] [(0, 2), (2, 1), (6, 1)] (by kernel_rfl) (by kernel_rfl) (by kernel_rfl) (by kernel_rfl) wsq_0 ?_
        refine chain_load rfl rfl 2 (by simp) ?_
        apply Exists.intro
        refine ⟨fun k' ww hk' hww => ?_, ?_⟩
        focus
          have mm : ww.cell? ⟨w.heap.size, 0, none⟩ = some (.slice (some ⟨g, 0, none⟩) n vc) := by
            rcases wsq_lt2 hk' hww with rfl | rfl
            · exact obd
            · exact ob2
          unfold calmAt calmUpon
          go_simp
          try rfl
        (simp only [Act.put, List.setIfInBounds_toArray, List.set_cons_succ, List.set_cons_zero])
        (refine chain_pure rfl rfl ?_; apply Exists.intro; refine ⟨fun ww => ?_, ?_⟩; (focus (unfold calmAt calmUpon; go_simp; rfl)); (simp only [Act.put, List.setIfInBounds_toArray, List.set_cons_succ, List.set_cons_zero]))
        (refine chain_load rfl rfl 1 (by simp) ?_; apply Exists.intro; refine ⟨fun k ww hk hww => ?_, ?_⟩; (focus (have e := wsq_lt1 hk hww; subst e; unfold calmAt calmUpon; go_simp; rfl)); (simp only [Act.put, List.setIfInBounds_toArray, List.set_cons_succ, List.set_cons_zero]))
        iterate 3 (refine chain_pure rfl rfl ?_; apply Exists.intro; refine ⟨fun ww => ?_, ?_⟩; (focus (unfold calmAt calmUpon; go_simp; rfl)); (simp only [Act.put, List.setIfInBounds_toArray, List.set_cons_succ, List.set_cons_zero]))
        (refine chain_load rfl rfl 1 (by simp) ?_; apply Exists.intro; refine ⟨fun k ww hk hww => ?_, ?_⟩; (focus (have e := wsq_lt1 hk hww; subst e; unfold calmAt calmUpon; go_simp; rfl)); (simp only [Act.put, List.setIfInBounds_toArray, List.set_cons_succ, List.set_cons_zero]))
        refine chain_write (by kernel_rfl) rfl 0 rfl (by rfl) ?_
        apply Exists.intro
        refine ⟨fun ww hww => ?_, ?_⟩
        focus
          have e := wsq_lt1 (Nat.zero_lt_one) hww
          subst e
          unfold calmAt calmUpon
          go_simp
          refine HC2.out.mono ?_
          rintro e w1 ⟨rfl, rfl⟩
          exact ⟨rfl, rfl⟩
        (simp only [Act.put, List.setIfInBounds_toArray, List.set_cons_succ, List.set_cons_zero])
        iterate 2 (refine chain_pure rfl rfl ?_; apply Exists.intro; refine ⟨fun ww => ?_, ?_⟩; (focus (unfold calmAt calmUpon; go_simp; rfl)); (simp only [Act.put, List.setIfInBounds_toArray, List.set_cons_succ, List.set_cons_zero]))
        refine chain_write (by kernel_rfl) rfl 1 rfl (by rfl) ?_
        apply Exists.intro
        refine ⟨fun ww hww => ?_, ?_⟩
        focus
          have e : W2 = ww := by simpa [wsq] using hww
          subst e
          unfold calmAt calmUpon
          go_simp
          refine ⟨rfl, ?_⟩
          rw [HW3.out]
          rfl
        (simp only [Act.put, List.setIfInBounds_toArray, List.set_cons_succ, List.set_cons_zero])
        refine calm_nil ?_
        intro ww hww
        have e : W3 = ww := by simpa [wsq] using hww
        subst e
        clear hww
        go_wp2_with fail
        go_roundw
        case rel => exact ⟨k + 1, _, _, by omega, by simp, by simp [HDL.out], HNX.out, HBX3.out, HR3.out⟩
        case measure => simp [intOf]; omega
      · obtain rfl : k = n := by omega
        have hrn : rest = [] ∧ done.map Fl.abs = N.fl.map Fl.abs := by
          have h1 := congrArg List.length hFO.split
          have h2 : (N.fl.take done.length).length = done.length := by
            have := congrArg List.length hFO.abs
            simp at this ⊢
            omega
          rw [List.length_append, h2, HN.out] at h1
          refine ⟨List.length_eq_zero_iff.1 (by omega), ?_⟩
          rw [hFO.abs, List.take_of_length_le (by rw [HN.out]; omega)]
        obtain ⟨rfl, habs⟩ := hrn
        have END : Hid ((∃ B v L, Ending.returned (.func (.func 43) #[] #[.pointer (some ⟨w.heap.size, 0, none⟩)]) = .returned (.func (.func 43) #[] #[.pointer (some ⟨B, 0, none⟩)]) ∧ FlSeq wr w.heap.size (N.fl.map Fl.abs) B v L) ∧ Below w.heap.size w wr) := Lib.hid
          ⟨⟨_, _, done, rfl, hbx, Nat.le_refl _, by have := hFO.row; rw [List.append_nil] at this; rw [hdl]; exact this, fun b hb => by rw [ob_eq hb]; omega, habs, hFO.own, fun x hx b hb => (hFO.far x hx b hb).1⟩, hFO.below⟩
        clear hFO habs hRw hbx
        go_wp2_with fail
        go_ret
        exact END.out
end Go.Proofs.Ytiindnmelegkgaa
end
/- The iterator over packets in flight, as a contract. -/
section
namespace Go.Proofs.Ytiindnmelegkgaa
open Go.RowKit Go.Shelf
set_option linter.unusedSimpArgs false
set_option linter.unusedVariables false
attribute [local go_sem] Oper.semAt_some

def zeroF : AFl := ⟨⟨#[]⟩, ⟨#[]⟩, [], 0, 0⟩
def absF (f : AFl) : Nat × APk := (f.id, ⟨f.frm, f.to, f.bs⟩)
def upF (F : List AFl) (k : Nat) : List (Nat × APk) := (F.take k).map absF
theorem upF_succ {F : List AFl} {k : Nat} {x : AFl} (h : F[k]? = some x) : upF F (k + 1) = upF F k ++ [absF x] := by simp [upF, List.take_add_one, h]
/-- What is handed out: the next one's number, its text, its bytes in a row laid just now. -/
def PxF (base : Nat) (F : List AFl) (pre : List (Nat × Pk)) (x : Nat × Pk) (W : World) : Prop := absP x = absF (F.getD pre.length zeroF) ∧ ownB W x.2.bv x.2.bs ∧ (∀ b, x.2.bv.ownBlock = some b → base ≤ b) ∧ pre.map absP = upF F pre.length
/-- The blocks that an iterator over packets in flight reads. -/
def SF (v : Value) (l : List Fl) (k : Nat) : Prop := v.ownBlock = some k ∨ ∃ q ∈ l, q.p.bv.ownBlock = some k

set_option maxRecDepth 100000 in
set_option maxHeartbeats 4000000 in
theorem fl43_in (n : Nat) (l Bs b cap len base : Nat) (hi : List Fl) (hlen : hi.length = len) (hreach : len ≤ 1000000) (J Jx : List (Nat × Pk) → World → Prop)
    (hJ : ∀ s A B row, J s A → A.grownBy B row → (row = none) → J s B)
    (hY : ∀ pre x W, J pre W → PxF base (hi.map Fl.abs) pre x W → pre.length < len → YieldAt Fence.wide (n - 1) Try.prog l (encP x) W fun e W' =>
      (e = .returned (.bool true) ∧ J (pre ++ [x]) W' ∧ KpS (SF (.slice (some ⟨b, 0, none⟩) len cap) hi) W W') ∨ (e = .returned (.bool false) ∧ Jx (pre ++ [x]) W'))
    (W : World) (hBs : W.cell? ⟨Bs, 0, none⟩ = some (.slice (some ⟨b, 0, none⟩) len cap)) (hc : W.ownsRow 0 81 5 (.slice (some ⟨b, 0, none⟩) len cap) len (hi.flatMap Fl.cells)) (hbs : ∀ q ∈ hi, ownB W q.p.bv q.p.bs) (hok : ∀ q ∈ hi, q.p.bs.length ≤ 65536) (hbase : base ≤ W.heap.size) (h0 : J [] W) :
    CallsIn Fence.wide n Try.prog 43 #[.func (.yield l) #[] #[], .pointer (some ⟨Bs, 0, none⟩)] W fun e W' => (∃ v, e = .returned v) ∧
      ((∃ ys, ys.map absP = upF (hi.map Fl.abs) len ∧ J ys W') ∨ (∃ pre, (∃ k, k ≤ len ∧ pre.map absP = upF (hi.map Fl.abs) k) ∧ Jx pre W')) := by
  refine callsIn_of_wp Try.func43 rfl trivial ?_ rfl
  simp only [Try.ntmps43, List.size_toArray, List.length_cons, List.length_nil, Nat.reduceAdd, Nat.reduceSub, Array.replicate_succ, Array.replicate_zero, List.push_toArray, List.append_toArray, List.nil_append, List.cons_append]
  have HE := Lib.hid hlen
  have HC := Lib.hid hc
  have HJ := Lib.hid hJ
  have HBB := Lib.hid hbs
  have HOK := Lib.hid hok
  have HYY := Lib.hid hY
  clear hlen hc hJ hbs hok hY
  gi_wp2
  gi_loopw [7] (fun i wr => ∃ (k : Nat) (pre : List (Nat × Pk)), k ≤ len ∧ i = .int .i64 k ∧ pre.length = k ∧ pre.map absP = upF (hi.map Fl.abs) k ∧ J pre wr ∧ KpS (SF (.slice (some ⟨b, 0, none⟩) len cap) hi) W wr)
    (fun i _ => len - (intOf i).toNat)
  case atStart => exact ⟨0, [], Nat.zero_le _, rfl, rfl, rfl, h0, KpS.refl _ _⟩
  case round =>
    obtain ⟨k, pre, hk, rfl, hpl, hpre, hJs, hnx⟩ := hrel
    by_cases hlt : k < len
    · have hrow : wr.ownsRow 0 81 5 (.slice (some ⟨b, 0, none⟩) len cap) len (hi.flatMap Fl.cells) := row_stays HC.out fun b' hb' => hnx.2 b' (.inl hb')
      obtain ⟨q, hq⟩ : ∃ q, hi[k]? = some q := ⟨hi[k]'(by rw [HE.out]; exact hlt), List.getElem?_eq_getElem _⟩
      have hqm := List.mem_of_getElem? hq
      obtain ⟨ba, bc, hbv⟩ := ownB_slice (HBB.out q hqm)
      obtain ⟨bl, hbl⟩ : ∃ l, q.p.bs.length = l := ⟨_, rfl⟩
      rw [hbl] at hbv
      have m0 := fl_at hrow hq HE.out 0 (by decide)
      have m1 := fl_at hrow hq HE.out 1 (by decide)
      have m2 := fl_at hrow hq HE.out 2 (by decide)
      have m3 := fl_at hrow hq HE.out 3 (by decide)
      have m4 := fl_at hrow hq HE.out 4 (by decide)
      simp [Fl.cells, hbv] at m0 m1 m2 m3 m4
      obtain ⟨W1, hW1⟩ : ∃ W1, W1 = wr.alloc (.cells #[.string q.p.frm, .string q.p.to, .slice ba bl bc, .int .i64 (q.id : Int), .int .i64 q.src] 81) := ⟨_, rfl⟩
      have b1 : Below wr.heap.size wr W1 := by rw [hW1]; exact (Below.refl _ _).alloc (Nat.le_refl _) _
      have x1 : W1.heap[wr.heap.size]? = some (.cells #[.string q.p.frm, .string q.p.to, .slice ba bl bc, .int .i64 (q.id : Int), .int .i64 q.src] 81 (0, 0)) := by rw [hW1]; exact new_at rfl
      have c0 : W1.drew.cell? ⟨wr.heap.size, 0, none⟩ = some (.string q.p.frm) := by rw [cell_of_row _ _ _ _ _ _ (show W1.drew.heap[wr.heap.size]? = _ from x1)]; rfl
      have c1 : W1.drew.cell? ⟨wr.heap.size, 1, none⟩ = some (.string q.p.to) := by rw [cell_of_row _ _ _ _ _ _ (show W1.drew.heap[wr.heap.size]? = _ from x1)]; rfl
      have c2 : W1.drew.cell? ⟨wr.heap.size, 2, none⟩ = some (.slice ba bl bc) := by rw [cell_of_row _ _ _ _ _ _ (show W1.drew.heap[wr.heap.size]? = _ from x1)]; rfl
      have c3 : W1.drew.cell? ⟨wr.heap.size, 3, none⟩ = some (.int .i64 (q.id : Int)) := by rw [cell_of_row _ _ _ _ _ _ (show W1.drew.heap[wr.heap.size]? = _ from x1)]; rfl
      have rq0 : rdB W1 q.p.bv q.p.bs := ownB_rd (row_stays (w := wr) (row_stays (HBB.out q hqm) fun b' hb' => hnx.2 b' (.inr ⟨q, hqm, hb'⟩)) fun b' hb' => b1.block b' (by have := ((HBB.out q hqm).lt b' hb').2; have := hnx.1; omega)) (by have := HOK.out q hqm; omega)
      have rq : rdB W1.drew q.p.bv q.p.bs := rdB_stays rq0 (Nat.le_refl _) fun _ _ _ => rfl
      obtain ⟨bv, W2, o2, f2, b2, call2⟩ := own_any q.p W1.drew rq
      obtain ⟨ca, cc, hbv2⟩ := ownB_slice o2
      rw [hbl] at hbv2
      have z1 := b1.size
      have b2' : Below W1.heap.size W1 W2 := ⟨b2.os, b2.tape, b2.output, b2.size, b2.block⟩
      have hg2 : wr.grownBy W2 none := ⟨b2'.os.trans b1.os, b2'.tape.trans b1.tape, b2'.output.trans b1.output, Nat.le_trans z1 b2'.size, fun k hk _ => (b2'.block k (by omega)).trans (b1.block k hk)⟩
      have hJ2 := HJ.out pre wr W2 none hJs hg2 rfl
      have hget : (hi.map Fl.abs).getD k zeroF = q.abs := by simp [List.getD, hq]
      have px : PxF base (hi.map Fl.abs) pre (q.id, { q.p with bv := bv }) W2 := ⟨by rw [hpl, hget]; rfl, o2, fun b' hb' => by have h0 : W1.heap.size ≤ b' := f2 b' hb'; have := hnx.1; omega, by rw [hpl]; exact hpre⟩
      obtain ⟨fn, tmps, assign, body, hy, hR⟩ := HYY.out _ (q.id, { q.p with bv := bv }) _ hJ2 px (by omega)
      unfold encP Pk.val at hy
      dsimp only at hy
      rw [hbv2] at hy
      have kp2 : KpS (SF (.slice (some ⟨b, 0, none⟩) len cap) hi) W W2 := hnx.trans ⟨hg2.size, fun j hj => hg2.block j (by
        have hWl : j < W.heap.size := by
          rcases hj with hj | ⟨q', hq', hj⟩
          · exact (HC.out.lt j hj).2
          · exact ((HBB.out q' hq').lt j hj).2
        have := hnx.1
        omega) (by simp)⟩
      have KP := Lib.hid kp2
      unfold Pk.val at call2
      rw [hbv, hbv2] at call2
      have HCL : Hid (Calls Try.prog 35 #[.agg #[.string q.p.frm, .string q.p.to, .slice ba bl bc]] W1.drew fun e w'' => e = .returned (.agg #[.string q.p.frm, .string q.p.to, .slice ca bl cc]) ∧ W2 = w'') := Lib.hid call2
      have HPRE : Hid ((pre ++ [(q.id, { q.p with bv := bv })]).map absP = upF (hi.map Fl.abs) (k + 1)) := Lib.hid (by
        rw [List.map_append, hpre, upF_succ (x := q.abs) (by simp [hq])]; rfl)
      have HPL := Lib.hid hpl
      have HW1 := Lib.hid hW1
      have x2 : W2.heap[wr.heap.size]? = some (.cells #[.string q.p.frm, .string q.p.to, .slice ba bl bc, .int .i64 (q.id : Int), .int .i64 q.src] 81 (0, 0)) := (b2'.block _ (Array.getElem?_eq_some_iff.1 x1).1).trans x1
      have HX : Hid (∀ ww kk, kk < 2 → wsq [W1.drew, W2] kk ww → ww.cell? ⟨wr.heap.size, 3, none⟩ = some (.int .i64 (q.id : Int))) := Lib.hid fun ww kk hk hww => by
        rcases wsq_lt2 hk hww with rfl | rfl
        · exact c3
        · rw [cell_of_row _ _ _ _ _ _ x2]; rfl
      clear x2
      clear hrow kp2 px hget hg2 b2 b2' o2 f2 b1 hW1 x1 call2 rq rq0 hbv2 hpre hpl hq hJs hJ2 z1
      gi_wp2_with fail
      rw [← HW1.out]
      refine wpIn_region_bar (by kernel_rfl) 8 (by rfl) ?_
      refine (show wpAnyIn _ _ _ _ _ _ (6 + (1 + 1)) _ _ _ from ?_)
      refine wpAnyIn_ahead_chain (like_self _) (by rfl) _ [0, 1, 2, 3, 4, 5] 6 1 (wsq [W1.drew, W2]) [5] [(2, 2), (4, 1)] (by kernel_rfl) (by kernel_rfl) (by kernel_rfl) (by kernel_rfl) (by kernel_rfl) (by kernel_rfl) (by kernel_rfl) (by kernel_rfl) wsq_0 ?_
      iterate 2 (refine ord_pure rfl rfl ?_; apply Exists.intro; refine ⟨fun ww => ?_, ?_⟩; (focus (unfold calmAt calmUpon; go_simp; rfl)); (simp only [Act.put, List.setIfInBounds_toArray, List.set_cons_succ, List.set_cons_zero]))
      (refine ord_load rfl rfl 2 (by simp) ?_; apply Exists.intro; refine ⟨fun k ww hk hww => ?_, ?_⟩; (focus (have cc := HX.out ww k hk hww; unfold calmAt calmUpon; go_simp; try rfl)); (simp only [Act.put, List.setIfInBounds_toArray, List.set_cons_succ, List.set_cons_zero]))
      (refine ord_pure rfl rfl ?_; apply Exists.intro; refine ⟨fun ww => ?_, ?_⟩; (focus (unfold calmAt calmUpon; go_simp; rfl)); (simp only [Act.put, List.setIfInBounds_toArray, List.set_cons_succ, List.set_cons_zero]))
      (refine ord_load rfl rfl 1 (by simp) ?_; apply Exists.intro; refine ⟨fun k ww hk hww => ?_, ?_⟩; (focus (have cc := wsq_lt1 hk hww; unfold calmAt calmUpon; go_simp; try rfl)); (simp only [Act.put, List.setIfInBounds_toArray, List.set_cons_succ, List.set_cons_zero]))
      refine ord_write (by kernel_rfl) rfl 0 rfl (by rfl) ?_
      apply Exists.intro
      refine ⟨fun ww hww => ?_, ?_⟩
      focus
        have e := wsq_lt1 (Nat.zero_lt_one) hww
        subst e
        unfold calmAt calmUpon
        go_simp
        refine HCL.out.mono ?_
        rintro e w1 ⟨rfl, rfl⟩
        exact ⟨rfl, rfl⟩
      (simp only [Act.put, List.setIfInBounds_toArray, List.set_cons_succ, List.set_cons_zero])
      refine ord_nil ?_
      intro ww hww
      have e : W2 = ww := by simpa [wsq] using hww
      subst e
      clear hww
      refine wpOpIn_like (by rfl) rfl ?_
      unfold Oper.wpIn
      go_simp
      refine ⟨fun h => (by simp [Fence.wide] at h), hR.mono ?_⟩
      rintro e W3 (⟨rfl, hJ3, hk3⟩ | ⟨rfl, hJx3⟩)
      · dsimp only
        refine wpAnyIn_behind_chain (like_self _) (by rfl) _ [0, 1, 2, 3, 4, 5, 6] [7] (wsq [W3]) [] [] (by kernel_rfl) (by kernel_rfl) (by kernel_rfl) (by kernel_rfl) (by kernel_rfl) (by kernel_rfl) (by kernel_rfl) (by kernel_rfl) (by kernel_rfl) (by kernel_rfl) wsq_0 ?_
        (refine ord_pure rfl rfl ?_; apply Exists.intro; refine ⟨fun ww => ?_, ?_⟩; (focus (unfold calmAt calmUpon; go_simp; rfl)); (simp only [Act.put, List.setIfInBounds_toArray, List.set_cons_succ, List.set_cons_zero]))
        refine ord_nil ?_
        intro ww hww
        have e : W3 = ww := by simpa [wsq] using hww
        subst e
        clear hww
        gi_wp2
        go_roundw
        case rel => exact ⟨k + 1, _, by omega, by simp, by simp [HPL.out], HPRE.out, hJ3, KP.out.trans hk3⟩
        case measure => simp [intOf]; omega
      · dsimp only
        refine wpAnyIn_behind_chain (like_self _) (by rfl) _ [0, 1, 2, 3, 4, 5, 6] [7] (wsq [W3]) [] [] (by kernel_rfl) (by kernel_rfl) (by kernel_rfl) (by kernel_rfl) (by kernel_rfl) (by kernel_rfl) (by kernel_rfl) (by kernel_rfl) (by kernel_rfl) (by kernel_rfl) wsq_0 ?_
        (refine ord_pure rfl rfl ?_; apply Exists.intro; refine ⟨fun ww => ?_, ?_⟩; (focus (unfold calmAt calmUpon; go_simp; rfl)); (simp only [Act.put, List.setIfInBounds_toArray, List.set_cons_succ, List.set_cons_zero]))
        refine ord_nil ?_
        intro ww hww
        have e : W3 = ww := by simpa [wsq] using hww
        subst e
        clear hww
        gi_wp2
        refine bodyPost_ret (results_none rfl _ _ _) rfl ?_
        exact ⟨⟨_, rfl⟩, .inr ⟨_, ⟨k + 1, by omega, HPRE.out⟩, hJx3⟩⟩
    · obtain rfl : k = len := by omega
      gi_wp2
      go_end0
      exact ⟨⟨_, rfl⟩, .inl ⟨pre, hpre, hJs⟩⟩
set_option maxRecDepth 100000 in
set_option maxHeartbeats 1000000 in
theorem fl43_nil (n : Nat) (l Bs : Nat) (J : List (Nat × Pk) → World → Prop) (W : World) (hBs : W.cell? ⟨Bs, 0, none⟩ = some (.slice none 0 0)) (h0 : J [] W) :
    CallsIn Fence.wide n Try.prog 43 #[.func (.yield l) #[] #[], .pointer (some ⟨Bs, 0, none⟩)] W fun e W' => (∃ v, e = .returned v) ∧ J [] W' := by
  refine callsIn_of_wp Try.func43 rfl trivial ?_ rfl
  simp only [Try.ntmps43, List.size_toArray, List.length_cons, List.length_nil, Nat.reduceAdd, Nat.reduceSub, Array.replicate_succ, Array.replicate_zero, List.push_toArray, List.append_toArray, List.nil_append, List.cons_append]
  gi_wp2
  gi_loopw [7] (fun i wr => i = .int .i64 0 ∧ J [] wr) (fun _ _ => 0)
  case atStart => exact ⟨rfl, h0⟩
  case round =>
    obtain ⟨rfl, hJs⟩ := hrel
    gi_wp2
    go_end0
    exact ⟨⟨_, rfl⟩, hJs⟩

theorem fl43_px (n : Nat) (Bs base : Nat) (v : Value) (hi : List Fl) (w : World) (hreach : hi.length ≤ 1000000) (hBs : w.heap[Bs]? = some (.cells #[v] 24 (0, 0))) (hI : w.ownsRow 0 81 5 v hi.length (hi.flatMap Fl.cells)) (hb : ∀ q ∈ hi, ownB w q.p.bv q.p.bs) (hok : ∀ q ∈ hi, q.p.bs.length ≤ 65536) (hbase : base ≤ w.heap.size) :
    SeqPx Fence.wide n Try.prog 43 #[.pointer (some ⟨Bs, 0, none⟩)] encP (PxF base (hi.map Fl.abs)) (KpS (SF v hi)) (fun ys => ys.map absP = upF (hi.map Fl.abs) hi.length) (fun pre => ∃ k, k ≤ hi.length ∧ pre.map absP = upF (hi.map Fl.abs) k) hi.length w := fun l J Jx W hW hJ _ hY h0 => by
  have hc' : W.cell? ⟨Bs, 0, none⟩ = some v := by
    have h := (hW.block Bs (Array.getElem?_eq_some_iff.1 hBs).1).trans hBs
    rw [cell_of_row _ _ _ _ _ _ h]; rfl
  have hI' : W.ownsRow 0 81 5 v hi.length (hi.flatMap Fl.cells) := row_stays hI fun b hb => hW.block b (hI.lt b hb).2
  have hb' : ∀ q ∈ hi, ownB W q.p.bv q.p.bs := fun q hq => row_stays (hb q hq) fun b h => hW.block b ((hb q hq).lt b h).2
  rcases hI'.2 with ⟨rfl, h0'⟩ | ⟨b, cap, cur, rfl, _⟩
  · have he : hi = [] := List.length_eq_zero_iff.1 h0'
    subst he
    exact (fl43_nil n l Bs J W hc' h0).mono fun e W' ⟨he, hj⟩ => ⟨he, .inl ⟨[], rfl, hj⟩⟩
  · exact fl43_in n l Bs b cap hi.length base hi rfl hreach J Jx (fun s A B row hs hg hr => hJ s A B row hs hg (fun r e => by rw [hr] at e; cases e)) hY W hc' hI' hb' hok (Nat.le_trans hbase hW.size) h0

end Go.Proofs.Ytiindnmelegkgaa
end
