/- The reference's Replay. -/
import Derived.Test.YtiindnmelegkgaaR17
import Derived.Test.YtiindnmelegkgaaBar
section
namespace Go.Proofs.Ytiindnmelegkgaa
open Go.RowKit
set_option linter.unusedSimpArgs false
set_option linter.unusedVariables false

theorem rnext_end {w Wc W3 W4 : World} {N N3 : RNet} (R : ROk w N) (bc : Below w.heap.size w Wc) (T : RNext Wc W3 N N3) (hb4 : Below w.heap.size w W4)
    (h4 : ∀ b, b < W3.heap.size → (b < w.heap.size ∨ Wc.heap.size ≤ b) → W4.heap[b]? = W3.heap[b]?) : RNext w W4 N N3 :=
  ⟨T.ok.stays fun b hb => h4 b (T.ok.lt hb) ((T.blocks b hb).imp R.lt id), hb4, fun b hb => (T.blocks b hb).imp id (fun h => Nat.le_trans bc.size h)⟩

def RAbs.hat (A : RAbs) (id : Int) : APk := (A.hist[id.toNat]?).getD zeroA
def RAbs.replay (A : RAbs) (id : Int) : RAbs × Int × Int :=
  if id < 0 ∨ (A.hist.length : Int) ≤ id then (A, 0, 9) else if 64 ≤ A.count then (A, 0, 7) else (A.put (A.hat id) id 7 id, (A.all.length : Nat), 0)
theorem hist_len (N : RNet) : N.abs.hist.length = N.hist.length := by simp [RNet.abs]
theorem hat_abs {N : RNet} {k : Nat} {x : Pk} (hx : N.hist[k]? = some x) : N.abs.hat (k : Nat) = x.abs := by
  unfold RAbs.hat RNet.abs
  simp [hx]

set_option maxHeartbeats 2000000 in
set_option maxRecDepth 100000 in
theorem rreplay_bad (N : RNet) (w : World) (R : ROk w N) (S : RSmall N) (id : Int) (h : id < 0 ∨ (N.hist.length : Int) ≤ id) :
    Calls Try.prog 64 #[N.val, .int .i64 id] w (ROut1 w N N.abs 0 9) := by
  have HT : Hid (∀ (W2 : World) (er : Int) v, v = N.val → Below w.heap.size w W2 → ROut1 w N N.abs 0 er (.returned (.tuple #[v, .int .i64 0, .int .i64 er])) W2) := Lib.hid fun W2 er v hv hb => ⟨N, by rw [hv], RNext.refl R hb, rfl⟩
  obtain ⟨⟨a1, n1, k1, ha1⟩, -, ⟨a3, n3, k3, ha3⟩, ⟨a4, n4, k4, ha4⟩⟩ := R.forms
  obtain ⟨a2, k2, ha2⟩ := row_slice R.h
  obtain ⟨n2, hn2⟩ : ∃ n, N.hist.length = n := ⟨_, rfl⟩
  rw [hn2] at ha2 h
  have HVAL : Hid (N.val = .agg #[.slice a1 n1 k1, .slice a2 n2 k2, .slice a3 n3 k3, .slice a4 n4 k4]) := Lib.hid (by unfold RNet.val; rw [ha1, ha2, ha3, ha4])
  rw [HVAL.out]
  have hb := S.hist
  rw [hn2] at hb
  clear R S ha1 ha2 ha3 ha4 hn2
  by_cases h0 : id < 0
  · go_enter Try.func64, Try.ntmps64
    go_wp2_with fail
    exact bodyPost_ret (v := .tuple #[.agg #[.slice a1 n1 k1, .slice a2 n2 k2, .slice a3 n3 k3, .slice a4 n4 k4], .int .i64 0, .int .i64 9]) (by simp [results, Try.results64, go_sem]) rfl
      (HT.out _ 9 _ HVAL.out.symm (((Below.refl _ _).alloc (Nat.le_refl _) _).alloc (by simp) _))
  · have h1 : (n2 : Int) ≤ id := by omega
    go_enter Try.func64, Try.ntmps64
    go_wp2_with fail
    exact bodyPost_ret (v := .tuple #[.agg #[.slice a1 n1 k1, .slice a2 n2 k2, .slice a3 n3 k3, .slice a4 n4 k4], .int .i64 0, .int .i64 9]) (by simp [results, Try.results64, go_sem]) rfl
      (HT.out _ 9 _ HVAL.out.symm (((Below.refl _ _).alloc (Nat.le_refl _) _).alloc (by simp) _))

set_option maxHeartbeats 2000000 in
set_option maxRecDepth 100000 in
theorem rreplay_full (N : RNet) (w : World) (R : ROk w N) (S : RSmall N) (k : Nat) (hk : k < N.hist.length) (hc : 64 ≤ countL N.all) :
    Calls Try.prog 64 #[N.val, .int .i64 (k : Nat)] w (ROut1 w N N.abs 0 7) := by
  obtain ⟨W0, hW0⟩ : ∃ W0, W0 = (w.alloc (.cells #[N.va, N.vh, N.ve, N.vb] 64)).alloc (.cells #[.slice none 0 0, .slice none 0 0, .slice none 0 0, .slice none 0 0] 64) := ⟨_, rfl⟩
  have b0 : Below w.heap.size w W0 := by rw [hW0]; exact ((Below.refl _ _).alloc (Nat.le_refl _) _).alloc (by simp) _
  have z0 : w.heap.size + 2 = W0.heap.size := by rw [hW0]; simp
  have x0 : W0.heap[w.heap.size]? = some (.cells #[N.va, N.vh, N.ve, N.vb] 64 (0, 0)) := by rw [hW0, old_at (by simp)]; exact new_at rfl
  have x1 : W0.heap[w.heap.size + 1]? = some (.cells #[.slice none 0 0, .slice none 0 0, .slice none 0 0, .slice none 0 0] 64 (0, 0)) := by rw [hW0]; exact new_at (by simp)
  have HT : Hid (∀ (W2 : World) (er : Int) v, v = N.val → Below w.heap.size w W2 → ROut1 w N N.abs 0 er (.returned (.tuple #[v, .int .i64 0, .int .i64 er])) W2) := Lib.hid fun W2 er v hv hb => ⟨N, by rw [hv], RNext.refl R hb, rfl⟩
  have HC := Lib.hid (count_any N W0 (R.below b0) S)
  obtain ⟨⟨a1, n1, k1, ha1⟩, -, ⟨a3, n3, k3, ha3⟩, ⟨a4, n4, k4, ha4⟩⟩ := R.forms
  obtain ⟨a2, k2, ha2⟩ := row_slice R.h
  obtain ⟨n2, hn2⟩ : ∃ n, N.hist.length = n := ⟨_, rfl⟩
  rw [hn2] at ha2 hk
  have HVAL : Hid (N.val = .agg #[.slice a1 n1 k1, .slice a2 n2 k2, .slice a3 n3 k3, .slice a4 n4 k4]) := Lib.hid (by unfold RNet.val; rw [ha1, ha2, ha3, ha4])
  obtain ⟨cn, hcn⟩ : ∃ cn, countL N.all = cn := ⟨_, rfl⟩
  rw [hcn] at hc
  rw [hcn, HVAL.out] at HC
  rw [HVAL.out]
  rw [ha1, ha2, ha3, ha4] at hW0 x0
  have hb := S.hist
  rw [hn2] at hb
  have hcl : cn ≤ 1000000 := by rw [← hcn]; exact Nat.le_trans (countL_le _) S.all
  have HW0 := Lib.hid hW0
  have HB0 := Lib.hid b0
  clear R S ha1 ha2 ha3 ha4 hn2 hcn hW0 b0
  obtain ⟨i0, i1, i2, i3, fi⟩ := cells4 x0
  go_enter Try.func64, Try.ntmps64
  go_wp2_with fail
  rw [← HW0.out]
  refine HC.out.mono ?_
  rintro e W1 ⟨rfl, hb1⟩
  have y0 := old_box x0 hb1 (by omega)
  have y1 := old_box x1 hb1 (by omega)
  clear i0 i1 i2 i3 fi
  obtain ⟨i0, i1, i2, i3, fi⟩ := cells4 y0
  obtain ⟨l0, l1, l2, l3, fl⟩ := cells4 y1
  have HB1 := Lib.hid hb1
  have HZ := Lib.hid z0
  clear hb1 z0
  go_wp2_with fail
  exact bodyPost_ret (v := .tuple #[.agg #[.slice a1 n1 k1, .slice a2 n2 k2, .slice a3 n3 k3, .slice a4 n4 k4], .int .i64 0, .int .i64 7]) (by simp [results, Try.results64, go_sem, l0, l1, l2, l3]) rfl
    (HT.out _ 7 _ HVAL.out.symm ((HB0.out.trans (HB1.out.mono (by have := HZ.out; omega))).trans (box4_below (by omega) _ _ _ _)))

set_option maxHeartbeats 4000000 in
set_option maxRecDepth 100000 in
theorem rreplay_ok (N : RNet) (w : World) (R : ROk w N) (S : RSmall N) (k : Nat) (q : Pk) (hq : N.hist[k]? = some q) (hc : ¬ 64 ≤ countL N.all) (hlt : N.all.length < 1000000) :
    Calls Try.prog 64 #[N.val, .int .i64 (k : Nat)] w (ROut1 w N (N.abs.put q.abs (k : Nat) 7 (k : Nat)) (N.all.length : Nat) 0) := by
  obtain ⟨W0, hW0⟩ : ∃ W0, W0 = (w.alloc (.cells #[N.va, N.vh, N.ve, N.vb] 64)).alloc (.cells #[.slice none 0 0, .slice none 0 0, .slice none 0 0, .slice none 0 0] 64) := ⟨_, rfl⟩
  have b0 : Below w.heap.size w W0 := by rw [hW0]; exact ((Below.refl _ _).alloc (Nat.le_refl _) _).alloc (by simp) _
  have z0 : w.heap.size + 2 = W0.heap.size := by rw [hW0]; simp
  have x0 : W0.heap[w.heap.size]? = some (.cells #[N.va, N.vh, N.ve, N.vb] 64 (0, 0)) := by rw [hW0, old_at (by simp)]; exact new_at rfl
  have x1 : W0.heap[w.heap.size + 1]? = some (.cells #[.slice none 0 0, .slice none 0 0, .slice none 0 0, .slice none 0 0] 64 (0, 0)) := by rw [hW0]; exact new_at (by simp)
  have HC := Lib.hid (count_any N W0 (R.below b0) S)
  have hqm := List.mem_of_getElem? hq
  have hk : k < N.hist.length := (List.getElem?_eq_some_iff.1 hq).1
  have HLC : Hid (∀ Wc, Below w.heap.size w Wc → Calls Try.prog 73 #[N.val, .int .i64 7, q.val, .int .i64 (k : Nat), .int .i64 (k : Nat)] Wc fun e w' => ∃ N', e = .returned (.tuple #[N'.val, .int .i64 (N.all.length : Nat)]) ∧ RLaunched Wc w' N q (k : Nat) 7 (k : Nat) N') :=
    Lib.hid fun Wc hb => rlaunched_any N Wc (R.below hb) S q (ownB_rd ((R.below hb).hb q hqm) (rd_len (R.hok q hqm))) (R.hok q hqm) hlt 7 (k : Nat) (k : Nat)
  obtain ⟨⟨a1, n1, k1, ha1⟩, -, ⟨a3, n3, k3, ha3⟩, ⟨a4, n4, k4, ha4⟩⟩ := R.forms
  obtain ⟨gh, k2, ha2⟩ := slice_box R.h (by omega)
  obtain ⟨n2, hn2⟩ : ∃ n, N.hist.length = n := ⟨_, rfl⟩
  rw [hn2] at ha2 hk
  have HVAL : Hid (N.val = .agg #[.slice a1 n1 k1, .slice (some ⟨gh, 0, none⟩) n2 k2, .slice a3 n3 k3, .slice a4 n4 k4]) := Lib.hid (by unfold RNet.val; rw [ha1, ha2, ha3, ha4])
  obtain ⟨pa, pc, hbv⟩ := ownB_slice (R.hb q hqm)
  obtain ⟨pl, hpl⟩ : ∃ l, q.bs.length = l := ⟨_, rfl⟩
  rw [hpl] at hbv
  have HQV : Hid (q.val = .agg #[.string q.frm, .string q.to, .slice pa pl pc]) := Lib.hid (by unfold Pk.val; rw [hbv])
  have rh := R.h
  rw [ha2, hn2] at rh
  have hgl : gh < w.heap.size := (rh.lt gh rfl).2
  have m0 := el_at (f := Pk.cells) (fun _ => rfl) rh hq hn2 0 (by decide)
  have m1 := el_at (f := Pk.cells) (fun _ => rfl) rh hq hn2 1 (by decide)
  have m2 := el_at (f := Pk.cells) (fun _ => rfl) rh hq hn2 2 (by decide)
  simp [Pk.cells, hbv] at m0 m1 m2
  obtain ⟨cn, hcn⟩ : ∃ cn, countL N.all = cn := ⟨_, rfl⟩
  rw [hcn] at hc
  obtain ⟨an, han⟩ : ∃ an, N.all.length = an := ⟨_, rfl⟩
  rw [hcn, HVAL.out] at HC
  rw [HVAL.out, HQV.out, han] at HLC
  rw [HVAL.out, han]
  rw [ha1, ha2, ha3, ha4] at hW0 x0
  have hb := S.hist
  rw [hn2] at hb
  have hcl : cn ≤ 1000000 := by rw [← hcn]; exact Nat.le_trans (countL_le _) S.all
  have HPUT : Hid (∀ N3 Wc W3, RLaunched Wc W3 N q (k : Nat) 7 (k : Nat) N3 → N3.abs = N.abs.put q.abs (k : Nat) 7 (k : Nat)) := Lib.hid fun N3 Wc W3 T => by rw [T.2]; unfold RAbs.put; rw [abs_len]; rfl
  have HR := Lib.hid R
  have HW0 := Lib.hid hW0
  have HB0 := Lib.hid b0
  clear R S ha1 ha2 ha3 ha4 hn2 hcn hW0 b0 hq hqm hpl hbv rh han
  obtain ⟨i0, i1, i2, i3, fi⟩ := cells4 x0
  go_enter Try.func64, Try.ntmps64
  go_wp2_with fail
  rw [← HW0.out]
  refine HC.out.mono ?_
  rintro e W1 ⟨rfl, hb1⟩
  have y0 := old_box x0 hb1 (by omega)
  have y1 := old_box x1 hb1 (by omega)
  have b1 : Below w.heap.size w W1 := HB0.out.trans (hb1.mono (by omega))
  have m0 := bcells b1 hgl m0
  have m1 := bcells b1 hgl m1
  have m2 := bcells b1 hgl m2
  have hz1 := hb1.size
  clear i0 i1 i2 i3 fi
  go_wp2_with fail
  -- the facts in both worlds ahead of the call
  have FT : ∀ ww : World, (∀ b, b < W1.heap.size → ww.heap[b]? = W1.heap[b]?) → ww.cell? ⟨w.heap.size, 0, none⟩ = some (.slice a1 n1 k1) ∧ ww.cell? ⟨w.heap.size, 1, none⟩ = some (.slice (some ⟨gh, 0, none⟩) n2 k2) ∧ ww.cell? ⟨w.heap.size, 2, none⟩ = some (.slice a3 n3 k3) ∧ ww.cell? ⟨w.heap.size, 3, none⟩ = some (.slice a4 n4 k4) ∧
      ww.cell? ⟨gh, k * 3, none⟩ = some (.string q.frm) ∧ ww.cell? ⟨gh, k * 3 + 1, none⟩ = some (.string q.to) ∧ ww.cell? ⟨gh, k * 3 + 2, none⟩ = some (.slice pa pl pc) := fun ww h => by
    have c : ∀ b i v, b < W1.heap.size → W1.cell? ⟨b, i, none⟩ = some v → ww.cell? ⟨b, i, none⟩ = some v := fun b i v hb hc => (World.cell?_of_block (h b hb)).trans hc
    obtain ⟨i0, i1, i2, i3, -⟩ := cells4 y0
    exact ⟨c _ _ _ (by omega) i0, c _ _ _ (by omega) i1, c _ _ _ (by omega) i2, c _ _ _ (by omega) i3, c _ _ _ (by omega) m0, c _ _ _ (by omega) m1, c _ _ _ (by omega) m2⟩
  have HFT := Lib.hid FT
  have HB1 := Lib.hid b1
  clear FT m0 m1 m2 hb1 b1
  refine wp_region_two 8 12 (by decide) (by kernel_rfl) ?_ ?_
  · -- the box first
    obtain ⟨Wa, hWa⟩ : ∃ Wa, Wa = W1.drew.alloc (.cells #[.slice none 0 0, .slice none 0 0, .slice none 0 0, .slice none 0 0] 64) := ⟨_, rfl⟩
    have FD := HFT.out W1.drew (fun _ _ => rfl)
    have FA := HFT.out Wa (fun b hb => by rw [hWa]; exact old_at hb)
    refine (show wpAny _ _ _ _ (9 + (5 + 1)) _ _ _ from ?_)
    refine wpAny_ahead_chain (like_tie _ 8 12) (by rfl) [0, 1, 2, 3, 4, 5, 6, 7, 12] 8 5 (wsq [W1.drew, Wa]) [12] [(0, 2), (2, 2), (5, 2)] (by kernel_rfl) (by kernel_rfl) (by kernel_rfl) (by kernel_rfl) (by kernel_rfl) (by kernel_rfl) (by kernel_rfl) wsq_0 ?_
    have F2 : ∀ ww kk, kk < 2 → wsq [W1.drew, Wa] kk ww → ww.cell? ⟨w.heap.size, 0, none⟩ = some (.slice a1 n1 k1) ∧ ww.cell? ⟨w.heap.size, 1, none⟩ = some (.slice (some ⟨gh, 0, none⟩) n2 k2) ∧ ww.cell? ⟨w.heap.size, 2, none⟩ = some (.slice a3 n3 k3) ∧ ww.cell? ⟨w.heap.size, 3, none⟩ = some (.slice a4 n4 k4) ∧
      ww.cell? ⟨gh, k * 3, none⟩ = some (.string q.frm) ∧ ww.cell? ⟨gh, k * 3 + 1, none⟩ = some (.string q.to) ∧ ww.cell? ⟨gh, k * 3 + 2, none⟩ = some (.slice pa pl pc) := fun ww kk hk hww => by
      rcases wsq_lt2 hk hww with rfl | rfl
      · exact FD
      · exact FA
    have H2 := Lib.hid F2
    have HWa := Lib.hid hWa
    clear F2 FD FA hWa
    (refine ord_load rfl rfl 2 (by simp) ?_; apply Exists.intro; refine ⟨fun k ww hk hww => ?_, ?_⟩; (focus (have cc := H2.out ww k hk hww; unfold calmAt calmUpon; go_simp; try rfl)); (simp only [Act.put, List.setIfInBounds_toArray, List.set_cons_succ, List.set_cons_zero]))
    (refine ord_pure rfl rfl ?_; apply Exists.intro; refine ⟨fun ww => ?_, ?_⟩; (focus (unfold calmAt calmUpon; go_simp; rfl)); (simp only [Act.put, List.setIfInBounds_toArray, List.set_cons_succ, List.set_cons_zero]))
    (refine ord_load rfl rfl 2 (by simp) ?_; apply Exists.intro; refine ⟨fun k ww hk hww => ?_, ?_⟩; (focus (have cc := H2.out ww k hk hww; unfold calmAt calmUpon; go_simp; try rfl)); (simp only [Act.put, List.setIfInBounds_toArray, List.set_cons_succ, List.set_cons_zero]))
    iterate 2 (refine ord_pure rfl rfl ?_; apply Exists.intro; refine ⟨fun ww => ?_, ?_⟩; (focus (unfold calmAt calmUpon; go_simp; rfl)); (simp only [Act.put, List.setIfInBounds_toArray, List.set_cons_succ, List.set_cons_zero]))
    (refine ord_load rfl rfl 2 (by simp) ?_; apply Exists.intro; refine ⟨fun k ww hk hww => ?_, ?_⟩; (focus (have cc := H2.out ww k hk hww; unfold calmAt calmUpon; go_simp; try rfl)); (simp only [Act.put, List.setIfInBounds_toArray, List.set_cons_succ, List.set_cons_zero]))
    iterate 2 (refine ord_pure rfl rfl ?_; apply Exists.intro; refine ⟨fun ww => ?_, ?_⟩; (focus (unfold calmAt calmUpon; go_simp; rfl)); (simp only [Act.put, List.setIfInBounds_toArray, List.set_cons_succ, List.set_cons_zero]))
    refine ord_write (by kernel_rfl) rfl 0 rfl (by rfl) ?_
    apply Exists.intro
    refine ⟨fun ww hww => ?_, ?_⟩
    focus
      have e := wsq_lt1 (Nat.zero_lt_one) hww
      subst e
      unfold calmAt calmUpon
      go_simp
      refine ⟨rfl, ?_⟩
      rw [HWa.out]
      rfl
    (simp only [Act.put, List.setIfInBounds_toArray, List.set_cons_succ, List.set_cons_zero])
    refine ord_nil ?_
    intro ww hww
    have e : Wa = ww := by simpa [wsq] using hww
    subst e
    refine wpOp_like (like_tie _ 8 12) rfl rfl ?_
    unfold Oper.wp
    go_simp
    have ba : Below w.heap.size w Wa := by rw [HWa.out]; exact HB1.out.drew.alloc (by show w.heap.size ≤ W1.heap.size; omega) _
    have za : Wa.heap.size = W1.heap.size + 1 := by rw [HWa.out]; simp
    have ya : Wa.heap[w.heap.size + 1]? = some (.cells #[.slice none 0 0, .slice none 0 0, .slice none 0 0, .slice none 0 0] 64 (0, 0)) := by rw [HWa.out]; exact (old_at (by show _ < W1.heap.size; omega)).trans y1
    have ma : Wa.heap[W1.heap.size]? = some (.cells #[.slice none 0 0, .slice none 0 0, .slice none 0 0, .slice none 0 0] 64 (0, 0)) := by rw [HWa.out]; exact new_at rfl
    refine (HLC.out Wa ba).mono ?_
    rintro e W3 ⟨N3, rfl, T3⟩
    have habs := HPUT.out _ _ _ T3
    have hz3 := T3.1.below.size
    have y3 := old_box ya T3.1.below (by omega)
    have m3 := old_box ma T3.1.below (by omega)
    obtain ⟨⟨q1, q2, q3, e1⟩, ⟨q4, q5, q6, e2⟩, ⟨q7, q8, q9, e3⟩, ⟨q10, q11, q12, e4⟩⟩ := T3.1.ok.forms
    have hv3 : N3.val = .agg #[.slice q1 q2 q3, .slice q4 q5 q6, .slice q7 q8 q9, .slice q10 q11 q12] := by unfold RNet.val; rw [e1, e2, e3, e4]
    obtain ⟨W4, hW4⟩ : ∃ W4, W4 = ((((W3.setCell ⟨W1.heap.size, 0, none⟩ (.slice q1 q2 q3)).setCell ⟨W1.heap.size, 1, none⟩ (.slice q4 q5 q6)).setCell ⟨W1.heap.size, 2, none⟩ (.slice q7 q8 q9)).setCell ⟨W1.heap.size, 3, none⟩ (.slice q10 q11 q12)) := ⟨_, rfl⟩
    have m4 : W4.heap[W1.heap.size]? = some (.cells #[.slice q1 q2 q3, .slice q4 q5 q6, .slice q7 q8 q9, .slice q10 q11 q12] 64 (0, 0)) := by rw [hW4]; exact box4 m3 _ _ _ _
    have y4 : W4.heap[w.heap.size + 1]? = some (.cells #[.slice none 0 0, .slice none 0 0, .slice none 0 0, .slice none 0 0] 64 (0, 0)) := by rw [hW4, box4_other _ _ _ _ (by omega)]; exact y3
    have END : Hid (∀ W5, W5 = ((((W4.setCell ⟨w.heap.size + 1, 0, none⟩ (.slice q1 q2 q3)).setCell ⟨w.heap.size + 1, 1, none⟩ (.slice q4 q5 q6)).setCell ⟨w.heap.size + 1, 2, none⟩ (.slice q7 q8 q9)).setCell ⟨w.heap.size + 1, 3, none⟩ (.slice q10 q11 q12)) → ROut1 w N (N.abs.put q.abs (k : Nat) 7 (k : Nat)) (an : Nat) 0 (.returned (.tuple #[.agg #[.slice q1 q2 q3, .slice q4 q5 q6, .slice q7 q8 q9, .slice q10 q11 q12], .int .i64 (an : Nat), .int .i64 0])) W5) := Lib.hid fun W5 h5 => by
      have b3 : Below w.heap.size w W3 := ba.trans (T3.1.below.mono (by omega))
      refine ⟨N3, by rw [hv3], rnext_end HR.out ba T3.1 ?_ (fun b hb hor => ?_), habs⟩
      · rw [h5, hW4]; exact (b3.trans (box4_below (by omega) _ _ _ _)).trans (box4_below (by omega) _ _ _ _)
      · rw [h5, box4_other _ _ _ _ (by omega), hW4, box4_other _ _ _ _ (by omega)]
    have HW4 := Lib.hid hW4
    rw [hv3]
    clear T3 habs e1 e2 e3 e4 hv3 hW4 ya ma
    refine wpAny_behind_chain (like_tie _ 8 12) (by rfl) [0, 1, 2, 3, 4, 5, 6, 7, 12, 8] [9, 10, 11, 13, 14] (wsq [W3, W4]) [13] [] (by kernel_rfl) (by kernel_rfl) (by kernel_rfl) (by kernel_rfl) (by kernel_rfl) (by kernel_rfl) (by kernel_rfl) (by kernel_rfl) (by kernel_rfl) wsq_0 ?_
    iterate 3 (refine ord_pure rfl rfl ?_; apply Exists.intro; refine ⟨fun ww => ?_, ?_⟩; (focus (unfold calmAt calmUpon; go_simp; rfl)); (simp only [Act.put, List.setIfInBounds_toArray, List.set_cons_succ, List.set_cons_zero]))
    refine ord_write (by kernel_rfl) rfl 0 rfl (by rfl) ?_
    apply Exists.intro
    refine ⟨fun ww hww => ?_, ?_⟩
    focus
      have e := wsq_lt1 (Nat.zero_lt_one) hww
      subst e
      obtain ⟨o0, o1, o2, o3, fo⟩ := cells4 m3
      unfold calmAt calmUpon
      go_simp
      refine ⟨rfl, ?_⟩
      rw [HW4.out]
      rfl
    (simp only [Act.put, List.setIfInBounds_toArray, List.set_cons_succ, List.set_cons_zero])
    (refine ord_pure rfl rfl ?_; apply Exists.intro; refine ⟨fun ww => ?_, ?_⟩; (focus (unfold calmAt calmUpon; go_simp; rfl)); (simp only [Act.put, List.setIfInBounds_toArray, List.set_cons_succ, List.set_cons_zero]))
    refine ord_nil ?_
    intro ww hww
    have e : W4 = ww := by simpa [wsq] using hww
    subst e
    clear hww
    obtain ⟨o0, o1, o2, o3, fo⟩ := cells4 m4
    obtain ⟨l0, l1, l2, l3, fl⟩ := cells4 y4
    go_wp2_with fail
    exact bodyPost_ret (v := .tuple #[.agg #[.slice q1 q2 q3, .slice q4 q5 q6, .slice q7 q8 q9, .slice q10 q11 q12], .int .i64 (an : Nat), .int .i64 0]) (by simp [results, Try.results64, go_sem, l0, l1, l2, l3]) rfl (END.out _ rfl)
  · -- the call first
    have FD := HFT.out W1.drew (fun _ _ => rfl)
    refine (show wpAny _ _ _ _ (8 + (6 + 1)) _ _ _ from ?_)
    refine wpAny_ahead_chain (like_tie _ 12 8) (by rfl) [0, 1, 2, 3, 4, 5, 6, 7] 8 6 (wsq [W1.drew]) [] [(0, 1), (2, 1), (5, 1)] (by kernel_rfl) (by kernel_rfl) (by kernel_rfl) (by kernel_rfl) (by kernel_rfl) (by kernel_rfl) (by kernel_rfl) wsq_0 ?_
    have F2 : ∀ ww kk, kk < 1 → wsq [W1.drew] kk ww → ww.cell? ⟨w.heap.size, 0, none⟩ = some (.slice a1 n1 k1) ∧ ww.cell? ⟨w.heap.size, 1, none⟩ = some (.slice (some ⟨gh, 0, none⟩) n2 k2) ∧ ww.cell? ⟨w.heap.size, 2, none⟩ = some (.slice a3 n3 k3) ∧ ww.cell? ⟨w.heap.size, 3, none⟩ = some (.slice a4 n4 k4) ∧
      ww.cell? ⟨gh, k * 3, none⟩ = some (.string q.frm) ∧ ww.cell? ⟨gh, k * 3 + 1, none⟩ = some (.string q.to) ∧ ww.cell? ⟨gh, k * 3 + 2, none⟩ = some (.slice pa pl pc) := fun ww kk hk hww => by
      have e := wsq_lt1 hk hww
      rw [e]
      exact FD
    have H2 := Lib.hid F2
    clear F2 FD
    (refine ord_load rfl rfl 1 (by simp) ?_; apply Exists.intro; refine ⟨fun k ww hk hww => ?_, ?_⟩; (focus (have cc := H2.out ww k hk hww; unfold calmAt calmUpon; go_simp; try rfl)); (simp only [Act.put, List.setIfInBounds_toArray, List.set_cons_succ, List.set_cons_zero]))
    (refine ord_pure rfl rfl ?_; apply Exists.intro; refine ⟨fun ww => ?_, ?_⟩; (focus (unfold calmAt calmUpon; go_simp; rfl)); (simp only [Act.put, List.setIfInBounds_toArray, List.set_cons_succ, List.set_cons_zero]))
    (refine ord_load rfl rfl 1 (by simp) ?_; apply Exists.intro; refine ⟨fun k ww hk hww => ?_, ?_⟩; (focus (have cc := H2.out ww k hk hww; unfold calmAt calmUpon; go_simp; try rfl)); (simp only [Act.put, List.setIfInBounds_toArray, List.set_cons_succ, List.set_cons_zero]))
    iterate 2 (refine ord_pure rfl rfl ?_; apply Exists.intro; refine ⟨fun ww => ?_, ?_⟩; (focus (unfold calmAt calmUpon; go_simp; rfl)); (simp only [Act.put, List.setIfInBounds_toArray, List.set_cons_succ, List.set_cons_zero]))
    (refine ord_load rfl rfl 1 (by simp) ?_; apply Exists.intro; refine ⟨fun k ww hk hww => ?_, ?_⟩; (focus (have cc := H2.out ww k hk hww; unfold calmAt calmUpon; go_simp; try rfl)); (simp only [Act.put, List.setIfInBounds_toArray, List.set_cons_succ, List.set_cons_zero]))
    iterate 2 (refine ord_pure rfl rfl ?_; apply Exists.intro; refine ⟨fun ww => ?_, ?_⟩; (focus (unfold calmAt calmUpon; go_simp; rfl)); (simp only [Act.put, List.setIfInBounds_toArray, List.set_cons_succ, List.set_cons_zero]))
    refine ord_nil ?_
    intro ww hww
    have e : W1.drew = ww := by simpa [wsq] using hww
    subst e
    refine wpOp_like (like_tie _ 12 8) rfl rfl ?_
    unfold Oper.wp
    go_simp
    have ba : Below w.heap.size w W1.drew := HB1.out.drew
    refine (HLC.out W1.drew ba).mono ?_
    rintro e W3 ⟨N3, rfl, T3⟩
    have habs := HPUT.out _ _ _ T3
    have hz3 : W1.heap.size ≤ W3.heap.size := T3.1.below.size
    have y3 := old_box (W := W1.drew) y1 T3.1.below (by show _ < W1.heap.size; omega)
    obtain ⟨⟨q1, q2, q3, e1⟩, ⟨q4, q5, q6, e2⟩, ⟨q7, q8, q9, e3⟩, ⟨q10, q11, q12, e4⟩⟩ := T3.1.ok.forms
    have hv3 : N3.val = .agg #[.slice q1 q2 q3, .slice q4 q5 q6, .slice q7 q8 q9, .slice q10 q11 q12] := by unfold RNet.val; rw [e1, e2, e3, e4]
    obtain ⟨Wb, hWb⟩ : ∃ Wb, Wb = W3.alloc (.cells #[.slice none 0 0, .slice none 0 0, .slice none 0 0, .slice none 0 0] 64) := ⟨_, rfl⟩
    obtain ⟨W4, hW4⟩ : ∃ W4, W4 = ((((Wb.setCell ⟨W3.heap.size, 0, none⟩ (.slice q1 q2 q3)).setCell ⟨W3.heap.size, 1, none⟩ (.slice q4 q5 q6)).setCell ⟨W3.heap.size, 2, none⟩ (.slice q7 q8 q9)).setCell ⟨W3.heap.size, 3, none⟩ (.slice q10 q11 q12)) := ⟨_, rfl⟩
    have mb : Wb.heap[W3.heap.size]? = some (.cells #[.slice none 0 0, .slice none 0 0, .slice none 0 0, .slice none 0 0] 64 (0, 0)) := by rw [hWb]; exact new_at rfl
    have m4 : W4.heap[W3.heap.size]? = some (.cells #[.slice q1 q2 q3, .slice q4 q5 q6, .slice q7 q8 q9, .slice q10 q11 q12] 64 (0, 0)) := by rw [hW4]; exact box4 mb _ _ _ _
    have y4 : W4.heap[w.heap.size + 1]? = some (.cells #[.slice none 0 0, .slice none 0 0, .slice none 0 0, .slice none 0 0] 64 (0, 0)) := by rw [hW4, box4_other _ _ _ _ (by omega), hWb, old_at (by omega)]; exact y3
    have END : Hid (∀ W5, W5 = ((((W4.setCell ⟨w.heap.size + 1, 0, none⟩ (.slice q1 q2 q3)).setCell ⟨w.heap.size + 1, 1, none⟩ (.slice q4 q5 q6)).setCell ⟨w.heap.size + 1, 2, none⟩ (.slice q7 q8 q9)).setCell ⟨w.heap.size + 1, 3, none⟩ (.slice q10 q11 q12)) → ROut1 w N (N.abs.put q.abs (k : Nat) 7 (k : Nat)) (an : Nat) 0 (.returned (.tuple #[.agg #[.slice q1 q2 q3, .slice q4 q5 q6, .slice q7 q8 q9, .slice q10 q11 q12], .int .i64 (an : Nat), .int .i64 0])) W5) := Lib.hid fun W5 h5 => by
      have b3 : Below w.heap.size w W3 := ba.trans (T3.1.below.mono (by show w.heap.size ≤ W1.heap.size; omega))
      refine ⟨N3, by rw [hv3], rnext_end HR.out ba T3.1 ?_ (fun b hb hor => ?_), habs⟩
      · rw [h5, hW4, hWb]; exact ((b3.alloc (by omega) _).trans (box4_below (by omega) _ _ _ _)).trans (box4_below (by omega) _ _ _ _)
      · have hor' : b < w.heap.size ∨ W1.heap.size ≤ b := hor
        rw [h5, box4_other _ _ _ _ (by omega), hW4, box4_other _ _ _ _ (by omega), hWb, old_at hb]
    have HW4 := Lib.hid hW4
    have HWb := Lib.hid hWb
    rw [hv3]
    clear T3 habs e1 e2 e3 e4 hv3 hW4 hWb
    refine wpAny_behind_chain (like_tie _ 12 8) (by rfl) [0, 1, 2, 3, 4, 5, 6, 7, 8] [9, 10, 11, 12, 13, 14] (wsq [W3, Wb, W4]) [12, 13] [] (by kernel_rfl) (by kernel_rfl) (by kernel_rfl) (by kernel_rfl) (by kernel_rfl) (by kernel_rfl) (by kernel_rfl) (by kernel_rfl) (by kernel_rfl) wsq_0 ?_
    iterate 3 (refine ord_pure rfl rfl ?_; apply Exists.intro; refine ⟨fun ww => ?_, ?_⟩; (focus (unfold calmAt calmUpon; go_simp; rfl)); (simp only [Act.put, List.setIfInBounds_toArray, List.set_cons_succ, List.set_cons_zero]))
    refine ord_write (by kernel_rfl) rfl 0 rfl (by rfl) ?_
    apply Exists.intro
    refine ⟨fun ww hww => ?_, ?_⟩
    focus
      have e := wsq_lt1 (Nat.zero_lt_one) hww
      subst e
      unfold calmAt calmUpon
      go_simp
      refine ⟨rfl, ?_⟩
      rw [HWb.out]
      rfl
    (simp only [Act.put, List.setIfInBounds_toArray, List.set_cons_succ, List.set_cons_zero])
    refine ord_write (by kernel_rfl) rfl 1 rfl (by rfl) ?_
    apply Exists.intro
    refine ⟨fun ww hww => ?_, ?_⟩
    focus
      have e : Wb = ww := by simpa [wsq] using hww
      subst e
      obtain ⟨o0, o1, o2, o3, fo⟩ := cells4 mb
      unfold calmAt calmUpon
      go_simp
      refine ⟨rfl, ?_⟩
      rw [HW4.out]
      rfl
    (simp only [Act.put, List.setIfInBounds_toArray, List.set_cons_succ, List.set_cons_zero])
    (refine ord_pure rfl rfl ?_; apply Exists.intro; refine ⟨fun ww => ?_, ?_⟩; (focus (unfold calmAt calmUpon; go_simp; rfl)); (simp only [Act.put, List.setIfInBounds_toArray, List.set_cons_succ, List.set_cons_zero]))
    refine ord_nil ?_
    intro ww hww
    have e : W4 = ww := by simpa [wsq] using hww
    subst e
    clear hww
    obtain ⟨o0, o1, o2, o3, fo⟩ := cells4 m4
    obtain ⟨l0, l1, l2, l3, fl⟩ := cells4 y4
    go_wp2_with fail
    exact bodyPost_ret (v := .tuple #[.agg #[.slice q1 q2 q3, .slice q4 q5 q6, .slice q7 q8 q9, .slice q10 q11 q12], .int .i64 (an : Nat), .int .i64 0]) (by simp [results, Try.results64, go_sem, l0, l1, l2, l3]) rfl (END.out _ rfl)
end Go.Proofs.Ytiindnmelegkgaa
end
/- The reference's Duplicate. -/
section
namespace Go.Proofs.Ytiindnmelegkgaa
open Go.RowKit
set_option linter.unusedSimpArgs false
set_option linter.unusedVariables false

def RAbs.dup (A : RAbs) (id : Int) : RAbs × Int × Int :=
  if A.flies id = false then (A, 0, 9) else if 64 ≤ A.count then (A, 0, 7) else (A.put ⟨(A.at id).frm, (A.at id).to, (A.at id).bs⟩ (A.at id).src 4 id, (A.all.length : Nat), 0)

set_option maxHeartbeats 2000000 in
set_option maxRecDepth 100000 in
theorem rdup_miss (N : RNet) (w : World) (R : ROk w N) (S : RSmall N) (id : Int) (hfl : fliesB N.all id = false) :
    Calls Try.prog 65 #[N.val, .int .i64 id] w (ROut1 w N N.abs 0 9) := by
  obtain ⟨W0, hW0⟩ : ∃ W0, W0 = (w.alloc (.cells #[N.va, N.vh, N.ve, N.vb] 64)).alloc (.cells #[.slice none 0 0, .slice none 0 0, .slice none 0 0, .slice none 0 0] 64) := ⟨_, rfl⟩
  have b0 : Below w.heap.size w W0 := by rw [hW0]; exact ((Below.refl _ _).alloc (Nat.le_refl _) _).alloc (by simp) _
  have z0 : w.heap.size + 2 = W0.heap.size := by rw [hW0]; simp
  have x0 : W0.heap[w.heap.size]? = some (.cells #[N.va, N.vh, N.ve, N.vb] 64 (0, 0)) := by rw [hW0, old_at (by simp)]; exact new_at rfl
  have x1 : W0.heap[w.heap.size + 1]? = some (.cells #[.slice none 0 0, .slice none 0 0, .slice none 0 0, .slice none 0 0] 64 (0, 0)) := by rw [hW0]; exact new_at (by simp)
  have HF := Lib.hid (flies_any N W0 (R.below b0) S id)
  rw [hfl] at HF
  have HT : Hid (∀ (W2 : World) (er : Int) v, v = N.val → Below w.heap.size w W2 → ROut1 w N N.abs 0 er (.returned (.tuple #[v, .int .i64 0, .int .i64 er])) W2) := Lib.hid fun W2 er v hv hb => ⟨N, by rw [hv], RNext.refl R hb, rfl⟩
  obtain ⟨⟨a1, n1, k1, ha1⟩, ⟨a2, n2, k2, ha2⟩, ⟨a3, n3, k3, ha3⟩, ⟨a4, n4, k4, ha4⟩⟩ := R.forms
  have HVAL : Hid (N.val = .agg #[.slice a1 n1 k1, .slice a2 n2 k2, .slice a3 n3 k3, .slice a4 n4 k4]) := Lib.hid (by unfold RNet.val; rw [ha1, ha2, ha3, ha4])
  rw [ha1, ha2, ha3, ha4] at hW0 x0
  rw [HVAL.out] at HF ⊢
  have HB0 := Lib.hid b0
  have HW0 := Lib.hid hW0
  clear R S b0 hW0 ha1 ha2 ha3 ha4 hfl
  obtain ⟨i0, i1, i2, i3, fi⟩ := cells4 x0
  go_enter Try.func65, Try.ntmps65
  go_wp2_with fail
  rw [← HW0.out]
  refine HF.out.mono ?_
  rintro e W1 ⟨rfl, hb1⟩
  have y0 := old_box x0 hb1 (by omega)
  have y1 := old_box x1 hb1 (by omega)
  clear i0 i1 i2 i3 fi
  obtain ⟨i0, i1, i2, i3, fi⟩ := cells4 y0
  obtain ⟨l0, l1, l2, l3, fl⟩ := cells4 y1
  have HB1 := Lib.hid hb1
  have HZ := Lib.hid z0
  clear hb1 z0
  go_wp2_with fail
  exact bodyPost_ret (v := .tuple #[.agg #[.slice a1 n1 k1, .slice a2 n2 k2, .slice a3 n3 k3, .slice a4 n4 k4], .int .i64 0, .int .i64 9]) (by simp [results, Try.results65, go_sem, l0, l1, l2, l3]) rfl
    (HT.out _ 9 _ HVAL.out.symm ((HB0.out.trans (HB1.out.mono (by have := HZ.out; omega))).trans (box4_below (by omega) _ _ _ _)))
set_option maxHeartbeats 2000000 in
set_option maxRecDepth 100000 in
theorem rdup_full (N : RNet) (w : World) (R : ROk w N) (S : RSmall N) (id : Int) (hfl : fliesB N.all id = true) (hc : 64 ≤ countL N.all) :
    Calls Try.prog 65 #[N.val, .int .i64 id] w (ROut1 w N N.abs 0 7) := by
  obtain ⟨W0, hW0⟩ : ∃ W0, W0 = (w.alloc (.cells #[N.va, N.vh, N.ve, N.vb] 64)).alloc (.cells #[.slice none 0 0, .slice none 0 0, .slice none 0 0, .slice none 0 0] 64) := ⟨_, rfl⟩
  have b0 : Below w.heap.size w W0 := by rw [hW0]; exact ((Below.refl _ _).alloc (Nat.le_refl _) _).alloc (by simp) _
  have z0 : w.heap.size + 2 = W0.heap.size := by rw [hW0]; simp
  have x0 : W0.heap[w.heap.size]? = some (.cells #[N.va, N.vh, N.ve, N.vb] 64 (0, 0)) := by rw [hW0, old_at (by simp)]; exact new_at rfl
  have x1 : W0.heap[w.heap.size + 1]? = some (.cells #[.slice none 0 0, .slice none 0 0, .slice none 0 0, .slice none 0 0] 64 (0, 0)) := by rw [hW0]; exact new_at (by simp)
  have HT : Hid (∀ (W2 : World) (er : Int) v, v = N.val → Below w.heap.size w W2 → ROut1 w N N.abs 0 er (.returned (.tuple #[v, .int .i64 0, .int .i64 er])) W2) := Lib.hid fun W2 er v hv hb => ⟨N, by rw [hv], RNext.refl R hb, rfl⟩
  have HF := Lib.hid (flies_any N W0 (R.below b0) S id)
  rw [hfl] at HF
  have HC : Hid (∀ Wf, Below w.heap.size w Wf → Calls Try.prog 30 #[N.val] Wf fun e w' => e = .returned (.int .i64 (countL N.all : Nat)) ∧ Below Wf.heap.size Wf w') := Lib.hid fun Wf hb => count_any N Wf (R.below hb) S
  obtain ⟨⟨a1, n1, k1, ha1⟩, -, ⟨a3, n3, k3, ha3⟩, ⟨a4, n4, k4, ha4⟩⟩ := R.forms
  obtain ⟨a2, k2, ha2⟩ := row_slice R.h
  obtain ⟨n2, hn2⟩ : ∃ n, N.hist.length = n := ⟨_, rfl⟩
  rw [hn2] at ha2
  have HVAL : Hid (N.val = .agg #[.slice a1 n1 k1, .slice a2 n2 k2, .slice a3 n3 k3, .slice a4 n4 k4]) := Lib.hid (by unfold RNet.val; rw [ha1, ha2, ha3, ha4])
  obtain ⟨cn, hcn⟩ : ∃ cn, countL N.all = cn := ⟨_, rfl⟩
  rw [hcn] at hc
  simp only [hcn, HVAL.out] at HC
  rw [HVAL.out] at HF
  rw [HVAL.out]
  rw [ha1, ha2, ha3, ha4] at hW0 x0
  have hb := S.hist
  rw [hn2] at hb
  have hcl : cn ≤ 1000000 := by rw [← hcn]; exact Nat.le_trans (countL_le _) S.all
  have HW0 := Lib.hid hW0
  have HB0 := Lib.hid b0
  clear R S ha1 ha2 ha3 ha4 hn2 hcn hW0 b0 hfl
  obtain ⟨i0, i1, i2, i3, fi⟩ := cells4 x0
  go_enter Try.func65, Try.ntmps65
  go_wp2_with fail
  rw [← HW0.out]
  refine HF.out.mono ?_
  rintro e Wf ⟨rfl, hbf⟩
  have yf0 := old_box x0 hbf (by omega)
  have yf1 := old_box x1 hbf (by omega)
  have bf : Below w.heap.size w Wf := HB0.out.trans (hbf.mono (by omega))
  have hzf := hbf.size
  clear i0 i1 i2 i3 fi
  obtain ⟨i0, i1, i2, i3, fi⟩ := cells4 yf0
  have HC2 := Lib.hid (HC.out Wf bf)
  have HBF := Lib.hid bf
  clear bf hbf
  go_wp2_with fail
  refine HC2.out.mono ?_
  rintro e W1 ⟨rfl, hb1⟩
  have y0 := old_box yf0 hb1 (by omega)
  have y1 := old_box yf1 hb1 (by omega)
  clear i0 i1 i2 i3 fi
  obtain ⟨i0, i1, i2, i3, fi⟩ := cells4 y0
  obtain ⟨l0, l1, l2, l3, fl⟩ := cells4 y1
  have HB1 := Lib.hid hb1
  have HZ := Lib.hid z0
  clear hb1 z0
  go_wp2_with fail
  exact bodyPost_ret (v := .tuple #[.agg #[.slice a1 n1 k1, .slice a2 n2 k2, .slice a3 n3 k3, .slice a4 n4 k4], .int .i64 0, .int .i64 7]) (by simp [results, Try.results65, go_sem, l0, l1, l2, l3]) rfl
    (HT.out _ 7 _ HVAL.out.symm ((HBF.out.trans (HB1.out.mono (by have := HZ.out; omega))).trans (box4_below (by omega) _ _ _ _)))

set_option maxHeartbeats 4000000 in
set_option maxRecDepth 100000 in
theorem rdup_ok (N : RNet) (w : World) (R : ROk w N) (S : RSmall N) (k : Nat) (x : RFl) (hx : N.all[k]? = some x) (hg : x.gone = false) (hc : ¬ 64 ≤ countL N.all) (hlt : N.all.length < 1000000) :
    Calls Try.prog 65 #[N.val, .int .i64 (k : Nat)] w (ROut1 w N (N.abs.put x.p.abs x.src 4 (k : Nat)) (N.all.length : Nat) 0) := by
  obtain ⟨W0, hW0⟩ : ∃ W0, W0 = (w.alloc (.cells #[N.va, N.vh, N.ve, N.vb] 64)).alloc (.cells #[.slice none 0 0, .slice none 0 0, .slice none 0 0, .slice none 0 0] 64) := ⟨_, rfl⟩
  have b0 : Below w.heap.size w W0 := by rw [hW0]; exact ((Below.refl _ _).alloc (Nat.le_refl _) _).alloc (by simp) _
  have z0 : w.heap.size + 2 = W0.heap.size := by rw [hW0]; simp
  have x0 : W0.heap[w.heap.size]? = some (.cells #[N.va, N.vh, N.ve, N.vb] 64 (0, 0)) := by rw [hW0, old_at (by simp)]; exact new_at rfl
  have x1 : W0.heap[w.heap.size + 1]? = some (.cells #[.slice none 0 0, .slice none 0 0, .slice none 0 0, .slice none 0 0] 64 (0, 0)) := by rw [hW0]; exact new_at (by simp)
  have HF := Lib.hid (flies_any N W0 (R.below b0) S (k : Nat))
  have hfl : fliesB N.all (k : Nat) = true := by simp [fliesB, hx, hg]
  rw [hfl] at HF
  have HC : Hid (∀ Wf, Below w.heap.size w Wf → Calls Try.prog 30 #[N.val] Wf fun e w' => e = .returned (.int .i64 (countL N.all : Nat)) ∧ Below Wf.heap.size Wf w') := Lib.hid fun Wf hb => count_any N Wf (R.below hb) S
  have hqm := List.mem_of_getElem? hx
  have hk : k < N.all.length := (List.getElem?_eq_some_iff.1 hx).1
  have HLC : Hid (∀ Wc, Below w.heap.size w Wc → Calls Try.prog 73 #[N.val, .int .i64 4, x.p.val, .int .i64 x.src, .int .i64 (k : Nat)] Wc fun e w' => ∃ N', e = .returned (.tuple #[N'.val, .int .i64 (N.all.length : Nat)]) ∧ RLaunched Wc w' N x.p x.src 4 (k : Nat) N') :=
    Lib.hid fun Wc hb => rlaunched_any N Wc (R.below hb) S x.p (ownB_rd ((R.below hb).ab x hqm) (rd_len (R.aok x hqm))) (R.aok x hqm) hlt 4 x.src (k : Nat)
  obtain ⟨-, ⟨a2, n1, k1, ha1⟩, ⟨a3, n3, k3, ha3⟩, ⟨a4, n4, k4, ha4⟩⟩ := R.forms
  obtain ⟨gh, k2, ha2⟩ := slice_box R.a (by omega)
  obtain ⟨n2, hn2⟩ : ∃ n, N.all.length = n := ⟨_, rfl⟩
  rw [hn2] at ha2 hk
  have HVAL : Hid (N.val = .agg #[.slice (some ⟨gh, 0, none⟩) n2 k2, .slice a2 n1 k1, .slice a3 n3 k3, .slice a4 n4 k4]) := Lib.hid (by unfold RNet.val; rw [ha2, ha1, ha3, ha4])
  obtain ⟨pa, pc, hbv⟩ := ownB_slice (R.ab x hqm)
  obtain ⟨pl, hpl⟩ : ∃ l, x.p.bs.length = l := ⟨_, rfl⟩
  rw [hpl] at hbv
  have HQV : Hid (x.p.val = .agg #[.string x.p.frm, .string x.p.to, .slice pa pl pc]) := Lib.hid (by unfold Pk.val; rw [hbv])
  have rh := R.a
  rw [ha2, hn2] at rh
  have hgl : gh < w.heap.size := (rh.lt gh rfl).2
  have m0 := el_at (f := RFl.cells) (fun _ => rfl) rh hx hn2 0 (by decide)
  have m1 := el_at (f := RFl.cells) (fun _ => rfl) rh hx hn2 1 (by decide)
  have m2 := el_at (f := RFl.cells) (fun _ => rfl) rh hx hn2 2 (by decide)
  have m3 := el_at (f := RFl.cells) (fun _ => rfl) rh hx hn2 3 (by decide)
  simp [RFl.cells, hbv] at m0 m1 m2 m3
  obtain ⟨cn, hcn⟩ : ∃ cn, countL N.all = cn := ⟨_, rfl⟩
  rw [hcn] at hc
  obtain ⟨an, han⟩ : ∃ an, N.all.length = an := ⟨_, rfl⟩
  simp only [hcn, HVAL.out] at HC
  simp only [HVAL.out, HQV.out, han] at HLC
  rw [HVAL.out] at HF
  rw [HVAL.out, han]
  rw [ha2, ha1, ha3, ha4] at hW0 x0
  have hb := S.all
  rw [hn2] at hb
  have hcl : cn ≤ 1000000 := by rw [← hcn]; exact Nat.le_trans (countL_le _) S.all
  have HPUT : Hid (∀ N3 Wc W3, RLaunched Wc W3 N x.p x.src 4 (k : Nat) N3 → N3.abs = N.abs.put x.p.abs x.src 4 (k : Nat)) := Lib.hid fun N3 Wc W3 T => by rw [T.2]; unfold RAbs.put; rw [abs_len]; rfl
  have HR := Lib.hid R
  have HW0 := Lib.hid hW0
  have HB0 := Lib.hid b0
  clear R S ha1 ha2 ha3 ha4 hn2 hcn hW0 b0 hx hqm hpl hbv rh han hfl hg
  obtain ⟨i0, i1, i2, i3, fi⟩ := cells4 x0
  go_enter Try.func65, Try.ntmps65
  go_wp2_with fail
  rw [← HW0.out]
  refine HF.out.mono ?_
  rintro e Wf ⟨rfl, hbf⟩
  have yf0 := old_box x0 hbf (by omega)
  have yf1 := old_box x1 hbf (by omega)
  have bf : Below w.heap.size w Wf := HB0.out.trans (hbf.mono (by omega))
  have hzf := hbf.size
  clear i0 i1 i2 i3 fi
  obtain ⟨i0, i1, i2, i3, fi⟩ := cells4 yf0
  have HC2 := Lib.hid (HC.out Wf bf)
  have HBF := Lib.hid bf
  clear bf hbf
  go_wp2_with fail
  refine HC2.out.mono ?_
  rintro e W1 ⟨rfl, hb1⟩
  have y0 := old_box yf0 hb1 (by omega)
  have y1 := old_box yf1 hb1 (by omega)
  have b1 : Below w.heap.size w W1 := HBF.out.trans (hb1.mono (by omega))
  have m0 := bcells b1 hgl m0
  have m1 := bcells b1 hgl m1
  have m2 := bcells b1 hgl m2
  have m3 := bcells b1 hgl m3
  have hz1 := hb1.size
  clear i0 i1 i2 i3 fi
  go_wp2_with fail
  -- the facts in both worlds ahead of the call
  have FT : ∀ ww : World, (∀ b, b < W1.heap.size → ww.heap[b]? = W1.heap[b]?) → ww.cell? ⟨w.heap.size, 0, none⟩ = some (.slice (some ⟨gh, 0, none⟩) n2 k2) ∧ ww.cell? ⟨w.heap.size, 1, none⟩ = some (.slice a2 n1 k1) ∧ ww.cell? ⟨w.heap.size, 2, none⟩ = some (.slice a3 n3 k3) ∧ ww.cell? ⟨w.heap.size, 3, none⟩ = some (.slice a4 n4 k4) ∧
      ww.cell? ⟨gh, k * 5, none⟩ = some (.string x.p.frm) ∧ ww.cell? ⟨gh, k * 5 + 1, none⟩ = some (.string x.p.to) ∧ ww.cell? ⟨gh, k * 5 + 2, none⟩ = some (.slice pa pl pc) ∧ ww.cell? ⟨gh, k * 5 + 3, none⟩ = some (.int .i64 x.src) := fun ww h => by
    have c : ∀ b i v, b < W1.heap.size → W1.cell? ⟨b, i, none⟩ = some v → ww.cell? ⟨b, i, none⟩ = some v := fun b i v hb hc => (World.cell?_of_block (h b hb)).trans hc
    obtain ⟨i0, i1, i2, i3, -⟩ := cells4 y0
    exact ⟨c _ _ _ (by omega) i0, c _ _ _ (by omega) i1, c _ _ _ (by omega) i2, c _ _ _ (by omega) i3, c _ _ _ (by omega) m0, c _ _ _ (by omega) m1, c _ _ _ (by omega) m2, c _ _ _ (by omega) m3⟩
  have HFT := Lib.hid FT
  have HB1 := Lib.hid b1
  clear FT m0 m1 m2 m3 hb1 b1
  refine wp_region_two 14 18 (by decide) (by kernel_rfl) ?_ ?_
  · -- the box first
    obtain ⟨Wa, hWa⟩ : ∃ Wa, Wa = W1.drew.alloc (.cells #[.slice none 0 0, .slice none 0 0, .slice none 0 0, .slice none 0 0] 64) := ⟨_, rfl⟩
    have FD := HFT.out W1.drew (fun _ _ => rfl)
    have FA := HFT.out Wa (fun b hb => by rw [hWa]; exact old_at hb)
    refine (show wpAny _ _ _ _ (15 + (5 + 1)) _ _ _ from ?_)
    refine wpAny_ahead_chain (like_tie _ 14 18) (by rfl) [0, 1, 2, 3, 4, 5, 6, 7, 8, 9, 10, 11, 12, 13, 18] 14 5 (wsq [W1.drew, Wa]) [18] [(0, 2), (2, 2), (6, 2), (8, 2), (12, 2)] (by kernel_rfl) (by kernel_rfl) (by kernel_rfl) (by kernel_rfl) (by kernel_rfl) (by kernel_rfl) (by kernel_rfl) wsq_0 ?_
    have F2 : ∀ ww kk, kk < 2 → wsq [W1.drew, Wa] kk ww → ww.cell? ⟨w.heap.size, 0, none⟩ = some (.slice (some ⟨gh, 0, none⟩) n2 k2) ∧ ww.cell? ⟨w.heap.size, 1, none⟩ = some (.slice a2 n1 k1) ∧ ww.cell? ⟨w.heap.size, 2, none⟩ = some (.slice a3 n3 k3) ∧ ww.cell? ⟨w.heap.size, 3, none⟩ = some (.slice a4 n4 k4) ∧
      ww.cell? ⟨gh, k * 5, none⟩ = some (.string x.p.frm) ∧ ww.cell? ⟨gh, k * 5 + 1, none⟩ = some (.string x.p.to) ∧ ww.cell? ⟨gh, k * 5 + 2, none⟩ = some (.slice pa pl pc) ∧ ww.cell? ⟨gh, k * 5 + 3, none⟩ = some (.int .i64 x.src) := fun ww kk hk hww => by
      rcases wsq_lt2 hk hww with rfl | rfl
      · exact FD
      · exact FA
    have H2 := Lib.hid F2
    have HWa := Lib.hid hWa
    clear F2 FD FA hWa
    (refine ord_load rfl rfl 2 (by simp) ?_; apply Exists.intro; refine ⟨fun k ww hk hww => ?_, ?_⟩; (focus (have cc := H2.out ww k hk hww; unfold calmAt calmUpon; go_simp; try rfl)); (simp only [Act.put, List.setIfInBounds_toArray, List.set_cons_succ, List.set_cons_zero]))
    (refine ord_pure rfl rfl ?_; apply Exists.intro; refine ⟨fun ww => ?_, ?_⟩; (focus (unfold calmAt calmUpon; go_simp; rfl)); (simp only [Act.put, List.setIfInBounds_toArray, List.set_cons_succ, List.set_cons_zero]))
    (refine ord_load rfl rfl 2 (by simp) ?_; apply Exists.intro; refine ⟨fun k ww hk hww => ?_, ?_⟩; (focus (have cc := H2.out ww k hk hww; unfold calmAt calmUpon; go_simp; try rfl)); (simp only [Act.put, List.setIfInBounds_toArray, List.set_cons_succ, List.set_cons_zero]))
    iterate 3 (refine ord_pure rfl rfl ?_; apply Exists.intro; refine ⟨fun ww => ?_, ?_⟩; (focus (unfold calmAt calmUpon; go_simp; rfl)); (simp only [Act.put, List.setIfInBounds_toArray, List.set_cons_succ, List.set_cons_zero]))
    (refine ord_load rfl rfl 2 (by simp) ?_; apply Exists.intro; refine ⟨fun k ww hk hww => ?_, ?_⟩; (focus (have cc := H2.out ww k hk hww; unfold calmAt calmUpon; go_simp; try rfl)); (simp only [Act.put, List.setIfInBounds_toArray, List.set_cons_succ, List.set_cons_zero]))
    (refine ord_pure rfl rfl ?_; apply Exists.intro; refine ⟨fun ww => ?_, ?_⟩; (focus (unfold calmAt calmUpon; go_simp; rfl)); (simp only [Act.put, List.setIfInBounds_toArray, List.set_cons_succ, List.set_cons_zero]))
    (refine ord_load rfl rfl 2 (by simp) ?_; apply Exists.intro; refine ⟨fun k ww hk hww => ?_, ?_⟩; (focus (have cc := H2.out ww k hk hww; unfold calmAt calmUpon; go_simp; try rfl)); (simp only [Act.put, List.setIfInBounds_toArray, List.set_cons_succ, List.set_cons_zero]))
    iterate 3 (refine ord_pure rfl rfl ?_; apply Exists.intro; refine ⟨fun ww => ?_, ?_⟩; (focus (unfold calmAt calmUpon; go_simp; rfl)); (simp only [Act.put, List.setIfInBounds_toArray, List.set_cons_succ, List.set_cons_zero]))
    (refine ord_load rfl rfl 2 (by simp) ?_; apply Exists.intro; refine ⟨fun k ww hk hww => ?_, ?_⟩; (focus (have cc := H2.out ww k hk hww; unfold calmAt calmUpon; go_simp; try rfl)); (simp only [Act.put, List.setIfInBounds_toArray, List.set_cons_succ, List.set_cons_zero]))
    (refine ord_pure rfl rfl ?_; apply Exists.intro; refine ⟨fun ww => ?_, ?_⟩; (focus (unfold calmAt calmUpon; go_simp; rfl)); (simp only [Act.put, List.setIfInBounds_toArray, List.set_cons_succ, List.set_cons_zero]))
    refine ord_write (by kernel_rfl) rfl 0 rfl (by rfl) ?_
    apply Exists.intro
    refine ⟨fun ww hww => ?_, ?_⟩
    focus
      have e := wsq_lt1 (Nat.zero_lt_one) hww
      subst e
      unfold calmAt calmUpon
      go_simp
      refine ⟨rfl, ?_⟩
      rw [HWa.out]
      rfl
    (simp only [Act.put, List.setIfInBounds_toArray, List.set_cons_succ, List.set_cons_zero])
    refine ord_nil ?_
    intro ww hww
    have e : Wa = ww := by simpa [wsq] using hww
    subst e
    refine wpOp_like (like_tie _ 14 18) rfl rfl ?_
    unfold Oper.wp
    go_simp
    have ba : Below w.heap.size w Wa := by rw [HWa.out]; exact HB1.out.drew.alloc (by show w.heap.size ≤ W1.heap.size; omega) _
    have za : Wa.heap.size = W1.heap.size + 1 := by rw [HWa.out]; simp
    have ya : Wa.heap[w.heap.size + 1]? = some (.cells #[.slice none 0 0, .slice none 0 0, .slice none 0 0, .slice none 0 0] 64 (0, 0)) := by rw [HWa.out]; exact (old_at (by show _ < W1.heap.size; omega)).trans y1
    have ma : Wa.heap[W1.heap.size]? = some (.cells #[.slice none 0 0, .slice none 0 0, .slice none 0 0, .slice none 0 0] 64 (0, 0)) := by rw [HWa.out]; exact new_at rfl
    refine (HLC.out Wa ba).mono ?_
    rintro e W3 ⟨N3, rfl, T3⟩
    have habs := HPUT.out _ _ _ T3
    have hz3 := T3.1.below.size
    have y3 := old_box ya T3.1.below (by omega)
    have m3 := old_box ma T3.1.below (by omega)
    obtain ⟨⟨q1, q2, q3, e1⟩, ⟨q4, q5, q6, e2⟩, ⟨q7, q8, q9, e3⟩, ⟨q10, q11, q12, e4⟩⟩ := T3.1.ok.forms
    have hv3 : N3.val = .agg #[.slice q1 q2 q3, .slice q4 q5 q6, .slice q7 q8 q9, .slice q10 q11 q12] := by unfold RNet.val; rw [e1, e2, e3, e4]
    obtain ⟨W4, hW4⟩ : ∃ W4, W4 = ((((W3.setCell ⟨W1.heap.size, 0, none⟩ (.slice q1 q2 q3)).setCell ⟨W1.heap.size, 1, none⟩ (.slice q4 q5 q6)).setCell ⟨W1.heap.size, 2, none⟩ (.slice q7 q8 q9)).setCell ⟨W1.heap.size, 3, none⟩ (.slice q10 q11 q12)) := ⟨_, rfl⟩
    have m4 : W4.heap[W1.heap.size]? = some (.cells #[.slice q1 q2 q3, .slice q4 q5 q6, .slice q7 q8 q9, .slice q10 q11 q12] 64 (0, 0)) := by rw [hW4]; exact box4 m3 _ _ _ _
    have y4 : W4.heap[w.heap.size + 1]? = some (.cells #[.slice none 0 0, .slice none 0 0, .slice none 0 0, .slice none 0 0] 64 (0, 0)) := by rw [hW4, box4_other _ _ _ _ (by omega)]; exact y3
    have END : Hid (∀ W5, W5 = ((((W4.setCell ⟨w.heap.size + 1, 0, none⟩ (.slice q1 q2 q3)).setCell ⟨w.heap.size + 1, 1, none⟩ (.slice q4 q5 q6)).setCell ⟨w.heap.size + 1, 2, none⟩ (.slice q7 q8 q9)).setCell ⟨w.heap.size + 1, 3, none⟩ (.slice q10 q11 q12)) → ROut1 w N (N.abs.put x.p.abs x.src 4 (k : Nat)) (an : Nat) 0 (.returned (.tuple #[.agg #[.slice q1 q2 q3, .slice q4 q5 q6, .slice q7 q8 q9, .slice q10 q11 q12], .int .i64 (an : Nat), .int .i64 0])) W5) := Lib.hid fun W5 h5 => by
      have b3 : Below w.heap.size w W3 := ba.trans (T3.1.below.mono (by omega))
      refine ⟨N3, by rw [hv3], rnext_end HR.out ba T3.1 ?_ (fun b hb hor => ?_), habs⟩
      · rw [h5, hW4]; exact (b3.trans (box4_below (by omega) _ _ _ _)).trans (box4_below (by omega) _ _ _ _)
      · rw [h5, box4_other _ _ _ _ (by omega), hW4, box4_other _ _ _ _ (by omega)]
    have HW4 := Lib.hid hW4
    rw [hv3]
    clear T3 habs e1 e2 e3 e4 hv3 hW4 ya ma
    refine wpAny_behind_chain (like_tie _ 14 18) (by rfl) [0, 1, 2, 3, 4, 5, 6, 7, 8, 9, 10, 11, 12, 13, 18, 14] [15, 16, 17, 19, 20] (wsq [W3, W4]) [19] [] (by kernel_rfl) (by kernel_rfl) (by kernel_rfl) (by kernel_rfl) (by kernel_rfl) (by kernel_rfl) (by kernel_rfl) (by kernel_rfl) (by kernel_rfl) wsq_0 ?_
    iterate 3 (refine ord_pure rfl rfl ?_; apply Exists.intro; refine ⟨fun ww => ?_, ?_⟩; (focus (unfold calmAt calmUpon; go_simp; rfl)); (simp only [Act.put, List.setIfInBounds_toArray, List.set_cons_succ, List.set_cons_zero]))
    refine ord_write (by kernel_rfl) rfl 0 rfl (by rfl) ?_
    apply Exists.intro
    refine ⟨fun ww hww => ?_, ?_⟩
    focus
      have e := wsq_lt1 (Nat.zero_lt_one) hww
      subst e
      obtain ⟨o0, o1, o2, o3, fo⟩ := cells4 m3
      unfold calmAt calmUpon
      go_simp
      refine ⟨rfl, ?_⟩
      rw [HW4.out]
      rfl
    (simp only [Act.put, List.setIfInBounds_toArray, List.set_cons_succ, List.set_cons_zero])
    (refine ord_pure rfl rfl ?_; apply Exists.intro; refine ⟨fun ww => ?_, ?_⟩; (focus (unfold calmAt calmUpon; go_simp; rfl)); (simp only [Act.put, List.setIfInBounds_toArray, List.set_cons_succ, List.set_cons_zero]))
    refine ord_nil ?_
    intro ww hww
    have e : W4 = ww := by simpa [wsq] using hww
    subst e
    clear hww
    obtain ⟨o0, o1, o2, o3, fo⟩ := cells4 m4
    obtain ⟨l0, l1, l2, l3, fl⟩ := cells4 y4
    go_wp2_with fail
    exact bodyPost_ret (v := .tuple #[.agg #[.slice q1 q2 q3, .slice q4 q5 q6, .slice q7 q8 q9, .slice q10 q11 q12], .int .i64 (an : Nat), .int .i64 0]) (by simp [results, Try.results65, go_sem, l0, l1, l2, l3]) rfl (END.out _ rfl)
  · -- the call first
    have FD := HFT.out W1.drew (fun _ _ => rfl)
    refine (show wpAny _ _ _ _ (14 + (6 + 1)) _ _ _ from ?_)
    refine wpAny_ahead_chain (like_tie _ 18 14) (by rfl) [0, 1, 2, 3, 4, 5, 6, 7, 8, 9, 10, 11, 12, 13] 14 6 (wsq [W1.drew]) [] [(0, 1), (2, 1), (6, 1), (8, 1), (12, 1)] (by kernel_rfl) (by kernel_rfl) (by kernel_rfl) (by kernel_rfl) (by kernel_rfl) (by kernel_rfl) (by kernel_rfl) wsq_0 ?_
    have F2 : ∀ ww kk, kk < 1 → wsq [W1.drew] kk ww → ww.cell? ⟨w.heap.size, 0, none⟩ = some (.slice (some ⟨gh, 0, none⟩) n2 k2) ∧ ww.cell? ⟨w.heap.size, 1, none⟩ = some (.slice a2 n1 k1) ∧ ww.cell? ⟨w.heap.size, 2, none⟩ = some (.slice a3 n3 k3) ∧ ww.cell? ⟨w.heap.size, 3, none⟩ = some (.slice a4 n4 k4) ∧
      ww.cell? ⟨gh, k * 5, none⟩ = some (.string x.p.frm) ∧ ww.cell? ⟨gh, k * 5 + 1, none⟩ = some (.string x.p.to) ∧ ww.cell? ⟨gh, k * 5 + 2, none⟩ = some (.slice pa pl pc) ∧ ww.cell? ⟨gh, k * 5 + 3, none⟩ = some (.int .i64 x.src) := fun ww kk hk hww => by
      have e := wsq_lt1 hk hww
      rw [e]
      exact FD
    have H2 := Lib.hid F2
    clear F2 FD
    (refine ord_load rfl rfl 1 (by simp) ?_; apply Exists.intro; refine ⟨fun k ww hk hww => ?_, ?_⟩; (focus (have cc := H2.out ww k hk hww; unfold calmAt calmUpon; go_simp; try rfl)); (simp only [Act.put, List.setIfInBounds_toArray, List.set_cons_succ, List.set_cons_zero]))
    (refine ord_pure rfl rfl ?_; apply Exists.intro; refine ⟨fun ww => ?_, ?_⟩; (focus (unfold calmAt calmUpon; go_simp; rfl)); (simp only [Act.put, List.setIfInBounds_toArray, List.set_cons_succ, List.set_cons_zero]))
    (refine ord_load rfl rfl 1 (by simp) ?_; apply Exists.intro; refine ⟨fun k ww hk hww => ?_, ?_⟩; (focus (have cc := H2.out ww k hk hww; unfold calmAt calmUpon; go_simp; try rfl)); (simp only [Act.put, List.setIfInBounds_toArray, List.set_cons_succ, List.set_cons_zero]))
    iterate 3 (refine ord_pure rfl rfl ?_; apply Exists.intro; refine ⟨fun ww => ?_, ?_⟩; (focus (unfold calmAt calmUpon; go_simp; rfl)); (simp only [Act.put, List.setIfInBounds_toArray, List.set_cons_succ, List.set_cons_zero]))
    (refine ord_load rfl rfl 1 (by simp) ?_; apply Exists.intro; refine ⟨fun k ww hk hww => ?_, ?_⟩; (focus (have cc := H2.out ww k hk hww; unfold calmAt calmUpon; go_simp; try rfl)); (simp only [Act.put, List.setIfInBounds_toArray, List.set_cons_succ, List.set_cons_zero]))
    (refine ord_pure rfl rfl ?_; apply Exists.intro; refine ⟨fun ww => ?_, ?_⟩; (focus (unfold calmAt calmUpon; go_simp; rfl)); (simp only [Act.put, List.setIfInBounds_toArray, List.set_cons_succ, List.set_cons_zero]))
    (refine ord_load rfl rfl 1 (by simp) ?_; apply Exists.intro; refine ⟨fun k ww hk hww => ?_, ?_⟩; (focus (have cc := H2.out ww k hk hww; unfold calmAt calmUpon; go_simp; try rfl)); (simp only [Act.put, List.setIfInBounds_toArray, List.set_cons_succ, List.set_cons_zero]))
    iterate 3 (refine ord_pure rfl rfl ?_; apply Exists.intro; refine ⟨fun ww => ?_, ?_⟩; (focus (unfold calmAt calmUpon; go_simp; rfl)); (simp only [Act.put, List.setIfInBounds_toArray, List.set_cons_succ, List.set_cons_zero]))
    (refine ord_load rfl rfl 1 (by simp) ?_; apply Exists.intro; refine ⟨fun k ww hk hww => ?_, ?_⟩; (focus (have cc := H2.out ww k hk hww; unfold calmAt calmUpon; go_simp; try rfl)); (simp only [Act.put, List.setIfInBounds_toArray, List.set_cons_succ, List.set_cons_zero]))
    (refine ord_pure rfl rfl ?_; apply Exists.intro; refine ⟨fun ww => ?_, ?_⟩; (focus (unfold calmAt calmUpon; go_simp; rfl)); (simp only [Act.put, List.setIfInBounds_toArray, List.set_cons_succ, List.set_cons_zero]))
    refine ord_nil ?_
    intro ww hww
    have e : W1.drew = ww := by simpa [wsq] using hww
    subst e
    refine wpOp_like (like_tie _ 18 14) rfl rfl ?_
    unfold Oper.wp
    go_simp
    have ba : Below w.heap.size w W1.drew := HB1.out.drew
    refine (HLC.out W1.drew ba).mono ?_
    rintro e W3 ⟨N3, rfl, T3⟩
    have habs := HPUT.out _ _ _ T3
    have hz3 : W1.heap.size ≤ W3.heap.size := T3.1.below.size
    have y3 := old_box (W := W1.drew) y1 T3.1.below (by show _ < W1.heap.size; omega)
    obtain ⟨⟨q1, q2, q3, e1⟩, ⟨q4, q5, q6, e2⟩, ⟨q7, q8, q9, e3⟩, ⟨q10, q11, q12, e4⟩⟩ := T3.1.ok.forms
    have hv3 : N3.val = .agg #[.slice q1 q2 q3, .slice q4 q5 q6, .slice q7 q8 q9, .slice q10 q11 q12] := by unfold RNet.val; rw [e1, e2, e3, e4]
    obtain ⟨Wb, hWb⟩ : ∃ Wb, Wb = W3.alloc (.cells #[.slice none 0 0, .slice none 0 0, .slice none 0 0, .slice none 0 0] 64) := ⟨_, rfl⟩
    obtain ⟨W4, hW4⟩ : ∃ W4, W4 = ((((Wb.setCell ⟨W3.heap.size, 0, none⟩ (.slice q1 q2 q3)).setCell ⟨W3.heap.size, 1, none⟩ (.slice q4 q5 q6)).setCell ⟨W3.heap.size, 2, none⟩ (.slice q7 q8 q9)).setCell ⟨W3.heap.size, 3, none⟩ (.slice q10 q11 q12)) := ⟨_, rfl⟩
    have mb : Wb.heap[W3.heap.size]? = some (.cells #[.slice none 0 0, .slice none 0 0, .slice none 0 0, .slice none 0 0] 64 (0, 0)) := by rw [hWb]; exact new_at rfl
    have m4 : W4.heap[W3.heap.size]? = some (.cells #[.slice q1 q2 q3, .slice q4 q5 q6, .slice q7 q8 q9, .slice q10 q11 q12] 64 (0, 0)) := by rw [hW4]; exact box4 mb _ _ _ _
    have y4 : W4.heap[w.heap.size + 1]? = some (.cells #[.slice none 0 0, .slice none 0 0, .slice none 0 0, .slice none 0 0] 64 (0, 0)) := by rw [hW4, box4_other _ _ _ _ (by omega), hWb, old_at (by omega)]; exact y3
    have END : Hid (∀ W5, W5 = ((((W4.setCell ⟨w.heap.size + 1, 0, none⟩ (.slice q1 q2 q3)).setCell ⟨w.heap.size + 1, 1, none⟩ (.slice q4 q5 q6)).setCell ⟨w.heap.size + 1, 2, none⟩ (.slice q7 q8 q9)).setCell ⟨w.heap.size + 1, 3, none⟩ (.slice q10 q11 q12)) → ROut1 w N (N.abs.put x.p.abs x.src 4 (k : Nat)) (an : Nat) 0 (.returned (.tuple #[.agg #[.slice q1 q2 q3, .slice q4 q5 q6, .slice q7 q8 q9, .slice q10 q11 q12], .int .i64 (an : Nat), .int .i64 0])) W5) := Lib.hid fun W5 h5 => by
      have b3 : Below w.heap.size w W3 := ba.trans (T3.1.below.mono (by show w.heap.size ≤ W1.heap.size; omega))
      refine ⟨N3, by rw [hv3], rnext_end HR.out ba T3.1 ?_ (fun b hb hor => ?_), habs⟩
      · rw [h5, hW4, hWb]; exact ((b3.alloc (by omega) _).trans (box4_below (by omega) _ _ _ _)).trans (box4_below (by omega) _ _ _ _)
      · have hor' : b < w.heap.size ∨ W1.heap.size ≤ b := hor
        rw [h5, box4_other _ _ _ _ (by omega), hW4, box4_other _ _ _ _ (by omega), hWb, old_at hb]
    have HW4 := Lib.hid hW4
    have HWb := Lib.hid hWb
    rw [hv3]
    clear T3 habs e1 e2 e3 e4 hv3 hW4 hWb
    refine wpAny_behind_chain (like_tie _ 18 14) (by rfl) [0, 1, 2, 3, 4, 5, 6, 7, 8, 9, 10, 11, 12, 13, 14] [15, 16, 17, 18, 19, 20] (wsq [W3, Wb, W4]) [18, 19] [] (by kernel_rfl) (by kernel_rfl) (by kernel_rfl) (by kernel_rfl) (by kernel_rfl) (by kernel_rfl) (by kernel_rfl) (by kernel_rfl) (by kernel_rfl) wsq_0 ?_
    iterate 3 (refine ord_pure rfl rfl ?_; apply Exists.intro; refine ⟨fun ww => ?_, ?_⟩; (focus (unfold calmAt calmUpon; go_simp; rfl)); (simp only [Act.put, List.setIfInBounds_toArray, List.set_cons_succ, List.set_cons_zero]))
    refine ord_write (by kernel_rfl) rfl 0 rfl (by rfl) ?_
    apply Exists.intro
    refine ⟨fun ww hww => ?_, ?_⟩
    focus
      have e := wsq_lt1 (Nat.zero_lt_one) hww
      subst e
      unfold calmAt calmUpon
      go_simp
      refine ⟨rfl, ?_⟩
      rw [HWb.out]
      rfl
    (simp only [Act.put, List.setIfInBounds_toArray, List.set_cons_succ, List.set_cons_zero])
    refine ord_write (by kernel_rfl) rfl 1 rfl (by rfl) ?_
    apply Exists.intro
    refine ⟨fun ww hww => ?_, ?_⟩
    focus
      have e : Wb = ww := by simpa [wsq] using hww
      subst e
      obtain ⟨o0, o1, o2, o3, fo⟩ := cells4 mb
      unfold calmAt calmUpon
      go_simp
      refine ⟨rfl, ?_⟩
      rw [HW4.out]
      rfl
    (simp only [Act.put, List.setIfInBounds_toArray, List.set_cons_succ, List.set_cons_zero])
    (refine ord_pure rfl rfl ?_; apply Exists.intro; refine ⟨fun ww => ?_, ?_⟩; (focus (unfold calmAt calmUpon; go_simp; rfl)); (simp only [Act.put, List.setIfInBounds_toArray, List.set_cons_succ, List.set_cons_zero]))
    refine ord_nil ?_
    intro ww hww
    have e : W4 = ww := by simpa [wsq] using hww
    subst e
    clear hww
    obtain ⟨o0, o1, o2, o3, fo⟩ := cells4 m4
    obtain ⟨l0, l1, l2, l3, fl⟩ := cells4 y4
    go_wp2_with fail
    exact bodyPost_ret (v := .tuple #[.agg #[.slice q1 q2 q3, .slice q4 q5 q6, .slice q7 q8 q9, .slice q10 q11 q12], .int .i64 (an : Nat), .int .i64 0]) (by simp [results, Try.results65, go_sem, l0, l1, l2, l3]) rfl (END.out _ rfl)
end Go.Proofs.Ytiindnmelegkgaa
end
/- The reference's Send. -/
section
namespace Go.Proofs.Ytiindnmelegkgaa
open Go.RowKit
set_option linter.unusedSimpArgs false
set_option linter.unusedVariables false

def RAbs.send (A : RAbs) (p : APk) : RAbs × Int × Int :=
  if validA p = false then (A, 0, 2) else if 64 ≤ A.count ∨ 1024 ≤ A.hist.length then (A, 0, 7) else
    (RAbs.put ⟨A.all, A.hist ++ [p], A.evs, A.blk⟩ p (A.hist.length : Nat) 1 (-1), (A.all.length : Nat), 0)

set_option maxHeartbeats 2000000 in
set_option maxRecDepth 100000 in
theorem rsend_no (N : RNet) (w : World) (R : ROk w N) (S : RSmall N) (p : Pk) (hr : rdB w p.bv p.bs) (er : Int) (h : (validB p = false ∧ er = 2) ∨ (validB p = true ∧ (64 ≤ countL N.all ∨ 1024 ≤ N.hist.length) ∧ er = 7)) :
    Calls Try.prog 66 #[N.val, p.val] w (ROut1 w N N.abs 0 er) := by
  obtain ⟨W0, hW0⟩ : ∃ W0, W0 = ((w.alloc (.cells #[N.va, N.vh, N.ve, N.vb] 64)).alloc (.cells #[.string p.frm, .string p.to, p.bv] 35)).alloc (.cells #[.slice none 0 0, .slice none 0 0, .slice none 0 0, .slice none 0 0] 64) := ⟨_, rfl⟩
  have b0 : Below w.heap.size w W0 := by rw [hW0]; exact (((Below.refl _ _).alloc (Nat.le_refl _) _).alloc (by simp) _).alloc (by simp; omega) _
  have z0 : w.heap.size + 3 = W0.heap.size := by rw [hW0]; simp
  have x0 : W0.heap[w.heap.size]? = some (.cells #[N.va, N.vh, N.ve, N.vb] 64 (0, 0)) := by rw [hW0, old_at (by simp; omega), old_at (by simp)]; exact new_at rfl
  have x1 : W0.heap[w.heap.size + 1]? = some (.cells #[.string p.frm, .string p.to, p.bv] 35 (0, 0)) := by rw [hW0, old_at (by simp)]; exact new_at (by simp)
  have x2 : W0.heap[w.heap.size + 2]? = some (.cells #[.slice none 0 0, .slice none 0 0, .slice none 0 0, .slice none 0 0] 64 (0, 0)) := by rw [hW0]; exact new_at (by simp)
  have HT : Hid (∀ (W2 : World) v, v = N.val → Below w.heap.size w W2 → ROut1 w N N.abs 0 er (.returned (.tuple #[v, .int .i64 0, .int .i64 er])) W2) := Lib.hid fun W2 v hv hb => ⟨N, by rw [hv], RNext.refl R hb, rfl⟩
  have HV := Lib.hid (rvalid_any p W0 (hr.below b0))
  have HC : Hid (∀ Wf, Below w.heap.size w Wf → Calls Try.prog 30 #[N.val] Wf fun e w' => e = .returned (.int .i64 (countL N.all : Nat)) ∧ Below Wf.heap.size Wf w') := Lib.hid fun Wf hb => count_any N Wf (R.below hb) S
  obtain ⟨⟨a1, n1, k1, ha1⟩, -, ⟨a3, n3, k3, ha3⟩, ⟨a4, n4, k4, ha4⟩⟩ := R.forms
  obtain ⟨a2, k2, ha2⟩ := row_slice R.h
  obtain ⟨n2, hn2⟩ : ∃ n, N.hist.length = n := ⟨_, rfl⟩
  rw [hn2] at ha2 h
  have HVAL : Hid (N.val = .agg #[.slice a1 n1 k1, .slice a2 n2 k2, .slice a3 n3 k3, .slice a4 n4 k4]) := Lib.hid (by unfold RNet.val; rw [ha1, ha2, ha3, ha4])
  obtain ⟨pa, pn, pc, hpv, -⟩ := hr.lt
  have HPV : Hid (p.val = .agg #[.string p.frm, .string p.to, .slice pa pn pc]) := Lib.hid (by unfold Pk.val; rw [hpv])
  obtain ⟨cn, hcn⟩ : ∃ cn, countL N.all = cn := ⟨_, rfl⟩
  rw [hcn] at h
  simp only [hcn, HVAL.out] at HC
  rw [HPV.out] at HV
  rw [HVAL.out, HPV.out]
  rw [ha1, ha2, ha3, ha4, hpv] at hW0
  rw [ha1, ha2, ha3, ha4] at x0
  rw [hpv] at x1
  have hb := S.hist
  rw [hn2] at hb
  have hcl : cn ≤ 1000000 := by rw [← hcn]; exact Nat.le_trans (countL_le _) S.all
  have HW0 := Lib.hid hW0
  have HB0 := Lib.hid b0
  have HZ := Lib.hid z0
  clear R S ha1 ha2 ha3 ha4 hn2 hcn hW0 b0 hpv hr
  rcases h with ⟨hv, rfl⟩ | ⟨hv, hfull, rfl⟩
  · obtain ⟨j0, j1, j2, fj⟩ := cells3 x1
    rw [hv] at HV
    clear hv
    go_enter Try.func66, Try.ntmps66
    go_wp2_with fail
    rw [← HW0.out]
    refine HV.out.mono ?_
    rintro e W1 ⟨rfl, hb1⟩
    have y0 := old_box x0 hb1 (by omega)
    have y2 := old_box x2 hb1 (by omega)
    obtain ⟨i0, i1, i2, i3, fi⟩ := cells4 y0
    obtain ⟨l0, l1, l2, l3, fl⟩ := cells4 y2
    have HB1 := Lib.hid hb1
    clear j0 j1 j2 fj hb1 z0
    go_wp2_with fail
    exact bodyPost_ret (v := .tuple #[.agg #[.slice a1 n1 k1, .slice a2 n2 k2, .slice a3 n3 k3, .slice a4 n4 k4], .int .i64 0, .int .i64 2]) (by simp [results, Try.results66, go_sem, l0, l1, l2, l3]) rfl
      (HT.out _ _ HVAL.out.symm ((HB0.out.trans (HB1.out.mono (by have := HZ.out; omega))).trans (box4_below (by omega) _ _ _ _)))
  · rw [hv] at HV
    clear hv
    by_cases hc : 64 ≤ cn
    all_goals
      try (have hh : 1024 ≤ n2 := by omega)
      obtain ⟨j0, j1, j2, fj⟩ := cells3 x1
      clear hfull
      go_enter Try.func66, Try.ntmps66
      go_wp2_with fail
      rw [← HW0.out]
      refine HV.out.mono ?_
      rintro e W1 ⟨rfl, hb1⟩
      have y0 := old_box x0 hb1 (by omega)
      have y2 := old_box x2 hb1 (by omega)
      have hz1 := hb1.size
      obtain ⟨i0, i1, i2, i3, fi⟩ := cells4 y0
      have HC1 := Lib.hid (HC.out W1 (HB0.out.trans (hb1.mono (by omega))))
      have HB1 := Lib.hid (HB0.out.trans (hb1.mono (by omega)))
      clear j0 j1 j2 fj hb1
      go_wp2_with fail
      refine HC1.out.mono ?_
      rintro e W2 ⟨rfl, hb2⟩
      have y0 := old_box y0 hb2 (by omega)
      have y2 := old_box y2 hb2 (by omega)
      clear i0 i1 i2 i3 fi
      obtain ⟨i0, i1, i2, i3, fi⟩ := cells4 y0
      obtain ⟨l0, l1, l2, l3, fl⟩ := cells4 y2
      have HB2 := Lib.hid hb2
      clear hb2
      go_wp2_with fail
      exact bodyPost_ret (v := .tuple #[.agg #[.slice a1 n1 k1, .slice a2 n2 k2, .slice a3 n3 k3, .slice a4 n4 k4], .int .i64 0, .int .i64 7]) (by simp [results, Try.results66, go_sem, l0, l1, l2, l3]) rfl
        (HT.out _ _ HVAL.out.symm ((HB1.out.trans (HB2.out.mono (by have := HZ.out; omega))).trans (box4_below (by omega) _ _ _ _)))

/-- The worlds ahead of launched. -/
structure Hst (B : Nat) (N : RNet) (p : Pk) (W2 : World) (v1 : Value) (Wa Wb Wd We : World) (bv : Value) (g c : Nat) : Prop where
  run1 : (Builtin.append_ #[25, 25] 25 #[.slice none 0 0, N.vh]).run Try.prog W2.drew = .ok v1 Wa
  own : Calls Try.prog 62 #[p.val] Wa fun e w'' => e = .returned (Pk.val { p with bv := bv }) ∧ Wb = w''
  run2 : (Builtin.append_ #[25, 25] 25 #[v1, .slice (some ⟨Wb.heap.size, 0, none⟩) 1 1]).run Try.prog (Wb.alloc (.cells (Pk.cells { p with bv := bv }).toArray 35)) = .ok (.slice (some ⟨g, 0, none⟩) (N.hist.length + 1) c) Wd
  we : We = Wd.setCell ⟨B, 1, none⟩ (.slice (some ⟨g, 0, none⟩) (N.hist.length + 1) c)
  ok : ROk We { N with hist := N.hist ++ [{ p with bv := bv }], vh := .slice (some ⟨g, 0, none⟩) (N.hist.length + 1) c }
  up1 : ∀ b, b < W2.heap.size → Wa.heap[b]? = W2.heap[b]?
  up2 : ∀ b, b < W2.heap.size → Wb.heap[b]? = W2.heap[b]?
  up3 : ∀ b, b < W2.heap.size → Wd.heap[b]? = W2.heap[b]?
  z : W2.heap.size ≤ We.heap.size ∧ W2.heap.size ≤ Wb.heap.size
  g1 : W2.heap.size ≤ g
  bb : ∀ b, bv.ownBlock = some b → W2.heap.size ≤ b
  v1f : ∃ a c, v1 = .slice a N.hist.length c
  bvf : ∃ a c, bv = .slice a p.bs.length c
  below : Below B W2 We
theorem hst_worlds (N : RNet) (B : Nat) (W2 : World) (R : ROk W2 N) (S : RSmall N) (p : Pk) (hr : rdB W2 p.bv p.bs) (hv : validB p = true) (hB : ∀ b, RB N b → b ≠ B) (hBl : B < W2.heap.size) : ∃ v1 Wa Wb Wd We bv g c, Hst B N p W2 v1 Wa Wb Wd We bv g c := by
  have Rd : ROk W2.drew N := R.stays fun _ _ => rfl
  obtain ⟨v1, Wa, run1, h1, f1, b1⟩ := app_row W2.drew 25 35 _ 3 56 u25 info35 rfl (by decide) (by decide) N.vh N.hist.length _ Rd.h (fun u hu => by
    obtain ⟨x, hx, hu⟩ := List.mem_flatMap.1 hu
    exact pk_one x (ownB_one (Rd.hb x hx)) u hu) (by have := S.hist; omega)
  have b1s : W2.heap.size ≤ Wa.heap.size := b1.size
  have ra : rdB Wa p.bv p.bs := (rdB_stays (w' := W2.drew) hr (Nat.le_refl _) fun _ _ _ => rfl).below b1
  obtain ⟨bv, Wb, o2, f2, b2, call2⟩ := rown_run p Wa ra
  have b2s := b2.size
  have hb1 : Wb.ownsRow 0 35 3 v1 N.hist.length (N.hist.flatMap Pk.cells) := row_stays h1 fun b hb => b2.block b (h1.lt b hb).2
  obtain ⟨g, c, Wd, run2, h3, gr3, l3, s3⟩ := append_one Wb 25 35 _ 3 56 u25 info35 rfl (by decide) (by decide) v1 N.hist.length _ hb1 (Pk.cells { p with bv := bv }) rfl (pk_one _ (ownB_one o2)) (by have := S.hist; omega)
  have f1' : ∀ b, v1.ownBlock = some b → W2.heap.size ≤ b := f1
  have up1 : ∀ b, b < W2.heap.size → Wa.heap[b]? = W2.heap[b]? := fun b hb => b1.block b hb
  have up2 : ∀ b, b < W2.heap.size → Wb.heap[b]? = W2.heap[b]? := fun b hb => (b2.block b (by omega)).trans (up1 b hb)
  have zc : (Wb.alloc (.cells (Pk.cells { p with bv := bv }).toArray 35)).heap.size = Wb.heap.size + 1 := by simp
  have z3 := gr3.size
  have up3 : ∀ b, b < W2.heap.size → Wd.heap[b]? = W2.heap[b]? := fun b hb => by
    rw [gr3.block b (by omega) (fun e => by have := f1' b e.symm; omega), old_at (by omega), up2 b hb]
  have hg : W2.heap.size ≤ g := by
    rcases l3 with h | h
    · exact f1' g h
    · omega
  obtain ⟨We, hWe⟩ : ∃ We, We = Wd.setCell ⟨B, 1, none⟩ (.slice (some ⟨g, 0, none⟩) (N.hist.length + 1) c) := ⟨_, rfl⟩
  have upE : ∀ b, b ≠ B → We.heap[b]? = Wd.heap[b]? := fun b hb => by rw [hWe]; exact set_other hb
  have old : ∀ b, RB N b → We.heap[b]? = W2.heap[b]? := fun b hb => by rw [upE b (hB b hb), up3 b (R.lt hb)]
  obtain ⟨va, vc, hv1⟩ := row_slice h1
  refine ⟨v1, Wa, Wb, Wd, We, bv, g, c, ⟨run1, call2, run2, hWe, ?_, up1, up2, up3, ⟨by rw [hWe, set_size]; omega, by omega⟩, hg, fun b hb => by have := f2 b hb; omega, ⟨va, vc, hv1⟩, ownB_slice o2, ?_⟩⟩
  · constructor
    · exact row_stays R.a fun b hb => old b (.inl hb)
    · have : We.ownsRow 0 35 3 (.slice (some ⟨g, 0, none⟩) (N.hist.length + 1) c) (N.hist.length + 1) (N.hist.flatMap Pk.cells ++ Pk.cells { p with bv := bv }) := row_stays h3 fun b hb => upE b (by rw [ob_eq hb]; omega)
      simpa using this
    · exact row_stays R.e fun b hb => old b (.inr (.inr (.inl hb)))
    · exact row_stays R.b fun b hb => old b (.inr (.inr (.inr (.inl hb))))
    · exact fun x hx => row_stays (R.ab x hx) fun b hb => old b (.inr (.inr (.inr (.inr (.inl ⟨x, hx, hb⟩)))))
    · intro x hx
      rcases List.mem_append.1 hx with hx | hx
      · exact row_stays (R.hb x hx) fun b hb => old b (.inr (.inr (.inr (.inr (.inr ⟨x, hx, hb⟩)))))
      · simp at hx; subst hx
        refine row_stays o2 fun b hb => ?_
        have h5 := f2 b hb
        have h6 := (o2.lt b hb).2
        have hne : v1.ownBlock ≠ some b := fun e => by have := (h1.lt b e).2; omega
        rw [upE b (by omega), gr3.block b (by omega) (fun e => hne e.symm), old_at h6]
    · exact R.aok
    · intro x hx
      rcases List.mem_append.1 hx with hx | hx
      · exact R.hok x hx
      · simp at hx; subst hx; exact hv
  · have bd : Below B W2 Wd := ⟨gr3.os.trans (b2.os.trans b1.os), gr3.tape.trans (b2.tape.trans b1.tape), gr3.output.trans (b2.output.trans b1.output), by omega, fun b hb => up3 b (by omega)⟩
    rw [hWe]
    exact bd.setCell (p := ⟨_, _, _⟩) (Nat.le_refl _) _
end Go.Proofs.Ytiindnmelegkgaa
end
/- The reference's Send: a packet is sent. -/
section
namespace Go.Proofs.Ytiindnmelegkgaa
open Go.RowKit
set_option linter.unusedSimpArgs false
set_option linter.unusedVariables false

set_option maxHeartbeats 4000000 in
set_option maxRecDepth 100000 in
theorem rsend_ok (N : RNet) (w : World) (R : ROk w N) (S : RSmall N) (p : Pk) (hr : rdB w p.bv p.bs) (hv : validB p = true) (hc : ¬ 64 ≤ countL N.all) (hh : ¬ 1024 ≤ N.hist.length) (hlt : N.all.length < 1000000) :
    Calls Try.prog 66 #[N.val, p.val] w (ROut1 w N (RAbs.put ⟨N.abs.all, N.abs.hist ++ [p.abs], N.evs, N.blk⟩ p.abs (N.hist.length : Nat) 1 (-1)) (N.all.length : Nat) 0) := by
  obtain ⟨W0, hW0⟩ : ∃ W0, W0 = ((w.alloc (.cells #[N.va, N.vh, N.ve, N.vb] 64)).alloc (.cells #[.string p.frm, .string p.to, p.bv] 35)).alloc (.cells #[.slice none 0 0, .slice none 0 0, .slice none 0 0, .slice none 0 0] 64) := ⟨_, rfl⟩
  have b0 : Below w.heap.size w W0 := by rw [hW0]; exact (((Below.refl _ _).alloc (Nat.le_refl _) _).alloc (by simp) _).alloc (by simp; omega) _
  have z0 : w.heap.size + 3 = W0.heap.size := by rw [hW0]; simp
  have x0 : W0.heap[w.heap.size]? = some (.cells #[N.va, N.vh, N.ve, N.vb] 64 (0, 0)) := by rw [hW0, old_at (by simp; omega), old_at (by simp)]; exact new_at rfl
  have x1 : W0.heap[w.heap.size + 1]? = some (.cells #[.string p.frm, .string p.to, p.bv] 35 (0, 0)) := by rw [hW0, old_at (by simp)]; exact new_at (by simp)
  have x2 : W0.heap[w.heap.size + 2]? = some (.cells #[.slice none 0 0, .slice none 0 0, .slice none 0 0, .slice none 0 0] 64 (0, 0)) := by rw [hW0]; exact new_at (by simp)
  have HV := Lib.hid (rvalid_any p W0 (hr.below b0))
  rw [hv] at HV
  have HC : Hid (∀ Wf, Below w.heap.size w Wf → Calls Try.prog 30 #[N.val] Wf fun e w' => e = .returned (.int .i64 (countL N.all : Nat)) ∧ Below Wf.heap.size Wf w') := Lib.hid fun Wf hb => count_any N Wf (R.below hb) S
  have HHW : Hid (∀ W2, Below w.heap.size w W2 → w.heap.size < W2.heap.size → ∃ v1 Wa Wb Wd We bv g c, Hst w.heap.size N p W2 v1 Wa Wb Wd We bv g c) := Lib.hid fun W2 hb hl => hst_worlds N w.heap.size W2 (R.below hb) S p (hr.below hb) hv (fun b h => by have := R.lt h; omega) hl
  obtain ⟨⟨a1, n1, k1, ha1⟩, -, ⟨a3, n3, k3, ha3⟩, ⟨a4, n4, k4, ha4⟩⟩ := R.forms
  obtain ⟨a2, k2, ha2⟩ := row_slice R.h
  obtain ⟨n2, hn2⟩ : ∃ n, N.hist.length = n := ⟨_, rfl⟩
  rw [hn2] at ha2 hh
  have HVAL : Hid (N.val = .agg #[.slice a1 n1 k1, .slice a2 n2 k2, .slice a3 n3 k3, .slice a4 n4 k4]) := Lib.hid (by unfold RNet.val; rw [ha1, ha2, ha3, ha4])
  have HVAL' : Hid (∀ N1 : RNet, ∀ v, N1.va = N.va → N1.ve = N.ve → N1.vb = N.vb → N1.vh = v → N1.val = .agg #[.slice a1 n1 k1, v, .slice a3 n3 k3, .slice a4 n4 k4]) := Lib.hid fun N1 v h1 h2 h3 h4 => by unfold RNet.val; rw [h1, h2, h3, h4, ha1, ha3, ha4]
  obtain ⟨pa, pn, pc, hpv, -⟩ := hr.lt
  have HPV : Hid (p.val = .agg #[.string p.frm, .string p.to, .slice pa pn pc]) := Lib.hid (by unfold Pk.val; rw [hpv])
  obtain ⟨cn, hcn⟩ : ∃ cn, countL N.all = cn := ⟨_, rfl⟩
  rw [hcn] at hc
  simp only [hcn, HVAL.out] at HC
  rw [HPV.out] at HV
  rw [HVAL.out, HPV.out]
  rw [ha1, ha2, ha3, ha4, hpv] at hW0
  rw [ha1, ha2, ha3, ha4] at x0
  rw [hpv] at x1
  have hb := S.hist
  rw [hn2] at hb
  have hcl : cn ≤ 1000000 := by rw [← hcn]; exact Nat.le_trans (countL_le _) S.all
  have HVH := Lib.hid ha2
  have HW0 := Lib.hid hW0
  have HB0 := Lib.hid b0
  have HZ := Lib.hid z0
  have HR := Lib.hid R
  have HS := Lib.hid S
  have HP := Lib.hid hr
  have HVV := Lib.hid hv
  have HN2 := Lib.hid hn2
  rw [hn2]
  clear R S ha1 ha2 ha3 ha4 hn2 hcn hW0 b0 hpv hr hv
  obtain ⟨j0, j1, j2, fj⟩ := cells3 x1
  go_enter Try.func66, Try.ntmps66
  go_wp2_with fail
  rw [← HW0.out]
  refine HV.out.mono ?_
  rintro e W1 ⟨rfl, hb1⟩
  have y0 := old_box x0 hb1 (by omega)
  have y1 := old_box x1 hb1 (by omega)
  have y2 := old_box x2 hb1 (by omega)
  have hz1 := hb1.size
  obtain ⟨i0, i1, i2, i3, fi⟩ := cells4 y0
  have HC1 := Lib.hid (HC.out W1 (HB0.out.trans (hb1.mono (by omega))))
  have HB1 := Lib.hid (HB0.out.trans (hb1.mono (by omega)))
  clear j0 j1 j2 fj hb1
  go_wp2_with fail
  refine HC1.out.mono ?_
  rintro e W2 ⟨rfl, hb2⟩
  have y0 := old_box y0 hb2 (by omega)
  have y1 := old_box y1 hb2 (by omega)
  have y2 := old_box y2 hb2 (by omega)
  have hz2 := hb2.size
  have b2 : Below w.heap.size w W2 := HB1.out.trans (hb2.mono (by omega))
  clear i0 i1 i2 i3 fi
  obtain ⟨i0, i1, i2, i3, fi⟩ := cells4 y0
  obtain ⟨v1, Wa, Wb, Wd, We, bv, g, c, H⟩ := HHW.out W2 b2 (by omega)
  obtain ⟨va, vc, hv1⟩ := H.v1f
  obtain ⟨ba, bc, hbv⟩ := H.bvf
  have r1 := H.run1
  have o1 := H.own
  have r2 := H.run2
  rw [HVH.out, hv1, HN2.out] at r1
  rw [hv1, HN2.out] at r2
  unfold Pk.val at o1
  rw [hbv] at o1
  have HPV2 := HPV.out
  unfold Pk.val at HPV2
  rw [HPV2] at o1
  have hk := H.z
  have c0 := y0
  obtain ⟨Wc, hWc⟩ : ∃ Wc, Wc = Wb.alloc (.cells (Pk.cells { p with bv := bv }).toArray 35) := ⟨_, rfl⟩
  rw [← hWc] at r2
  have ya := (H.up1 w.heap.size (by omega)).trans y0
  have ya1 := (H.up1 (w.heap.size + 1) (by omega)).trans y1
  have yd := (H.up3 w.heap.size (by omega)).trans y0
  have ye : We.heap[w.heap.size]? = some (.cells #[.slice a1 n1 k1, .slice (some ⟨g, 0, none⟩) (n2 + 1) c, .slice a3 n3 k3, .slice a4 n4 k4] 64 (0, 0)) := by rw [H.we, HN2.out]; exact set_at yd
  have ye1 : We.heap[w.heap.size + 1]? = some (.cells #[.string p.frm, .string p.to, .slice pa pn pc] 35 (0, 0)) := by rw [H.we, set_other (by show w.heap.size + 1 ≠ w.heap.size; omega), H.up3 _ (by omega)]; exact y1
  have ye2 : We.heap[w.heap.size + 2]? = some (.cells #[.slice none 0 0, .slice none 0 0, .slice none 0 0, .slice none 0 0] 64 (0, 0)) := by rw [H.we, set_other (by show w.heap.size + 2 ≠ w.heap.size; omega), H.up3 _ (by omega)]; exact y2
  have bE : Below w.heap.size w We := b2.trans H.below
  obtain ⟨N1, hN1⟩ : ∃ N1 : RNet, N1 = { N with hist := N.hist ++ [{ p with bv := bv }], vh := .slice (some ⟨g, 0, none⟩) (N.hist.length + 1) c } := ⟨_, rfl⟩
  have okE : ROk We N1 := by rw [hN1]; exact H.ok
  have rE : rdB We p.bv p.bs := HP.out.below bE
  have HLC := Lib.hid (rlaunched_any N1 We okE ⟨by rw [hN1]; exact HS.out.all, by rw [hN1]; simp; have := HS.out.hist; have := HN2.out; omega, by rw [hN1]; exact HS.out.evs, by rw [hN1]; exact HS.out.blk⟩ p rE HVV.out (by rw [hN1]; exact hlt) 1 (n2 : Nat) (-1))
  rw [HPV.out, HVAL'.out N1 (.slice (some ⟨g, 0, none⟩) (n2 + 1) c) (by rw [hN1]) (by rw [hN1]) (by rw [hN1]) (by rw [hN1, HN2.out]), show N1.all.length = N.all.length by rw [hN1]] at HLC
  have HEND : Hid (∀ W3 N3, RLaunched We W3 N1 p (n2 : Nat) 1 (-1) N3 → ∀ W5 v, v = N3.val → Below w.heap.size w W5 → (∀ b, b < W3.heap.size → b ≠ w.heap.size + 2 → W5.heap[b]? = W3.heap[b]?) →
      ROut1 w N (RAbs.put ⟨N.abs.all, N.abs.hist ++ [p.abs], N.evs, N.blk⟩ p.abs (n2 : Nat) 1 (-1)) (N.all.length : Nat) 0 (.returned (.tuple #[v, .int .i64 (N.all.length : Nat), .int .i64 0])) W5) := Lib.hid fun W3 N3 T W5 v hv hb5 h5 => by
    have hzE := bE.size
    have blk : ∀ b, RB N3 b → RB N b ∨ W2.heap.size ≤ b := fun b hb => by
      rcases T.1.blocks b hb with h | h
      · rw [hN1] at h
        rcases h with h | h | h | h | h | ⟨x, hx, h⟩
        · exact .inl (.inl h)
        · have := ob_eq h; have := H.g1; right; omega
        · exact .inl (.inr (.inr (.inl h)))
        · exact .inl (.inr (.inr (.inr (.inl h))))
        · exact .inl (.inr (.inr (.inr (.inr (.inl h)))))
        · rcases List.mem_append.1 hx with hx | hx
          · exact .inl (.inr (.inr (.inr (.inr (.inr ⟨x, hx, h⟩)))))
          · simp at hx; subst hx
            right; exact H.bb b h
      · right; omega
    refine ⟨N3, by rw [hv], ⟨T.1.ok.stays fun b hb => h5 b (T.1.ok.lt hb) ?_, hb5, fun b hb => (blk b hb).imp id (fun h => by omega)⟩, ?_⟩
    · rcases blk b hb with h | h
      · have := HR.out.lt h; omega
      · omega
    · rw [T.2, hN1]
      unfold RAbs.put RNet.abs
      simp [Pk.abs]
  have HR1 := Lib.hid r1
  have HO1 := Lib.hid o1
  have HR2 := Lib.hid r2
  have HWE := Lib.hid H.we
  have HWC := Lib.hid hWc
  have HBV := Lib.hid hbv
  have HBE := Lib.hid bE
  have hzb := H.z
  clear H r1 o1 r2 hWc hbv b2 bE okE rE hN1 hv1 hb2 c0 HPV2
  go_wp2_with fail
  clear i0 i1 i2 i3 fi
  refine wp_region_chain (wsq [W2.drew, Wa, Wb, Wc, Wd, We]) [2, 4, 5, 6, 8] [(1, 1), (3, 2)] (by kernel_rfl) (by kernel_rfl) (by kernel_rfl) (by kernel_rfl) wsq_0 ?_
  (refine chain_pure rfl rfl ?_; apply Exists.intro; refine ⟨fun ww => ?_, ?_⟩; (focus (unfold calmAt calmUpon; go_simp; rfl)); (simp only [Act.put, List.setIfInBounds_toArray, List.set_cons_succ, List.set_cons_zero]))
  refine chain_load rfl rfl 1 (by simp) ?_
  apply Exists.intro
  refine ⟨fun k ww hk hww => ?_, ?_⟩
  focus
    have e := wsq_lt1 hk hww
    subst e
    obtain ⟨i0, i1, i2, i3, -⟩ := cells4 (show W2.drew.heap[w.heap.size]? = _ from y0)
    unfold calmAt calmUpon
    go_simp
    rfl
  (simp only [Act.put, List.setIfInBounds_toArray, List.set_cons_succ, List.set_cons_zero])
  refine chain_write (by kernel_rfl) rfl 0 rfl (by rfl) ?_
  apply Exists.intro
  refine ⟨fun ww hww => ?_, ?_⟩
  focus
    have e := wsq_lt1 (Nat.zero_lt_one) hww
    subst e
    exact calmAt_append (.const (.slice none 0 0)) (.tmp 24) 25 rfl _ _ rfl rfl HR1.out rfl
  (simp only [Act.put, List.setIfInBounds_toArray, List.set_cons_succ, List.set_cons_zero])
  refine chain_load rfl rfl 2 (by simp) ?_
  apply Exists.intro
  refine ⟨fun k ww hk hww => ?_, ?_⟩
  focus
    have m : ww.cell? ⟨w.heap.size + 1, 0, none⟩ = some (.string p.frm) ∧ ww.cell? ⟨w.heap.size + 1, 1, none⟩ = some (.string p.to) ∧ ww.cell? ⟨w.heap.size + 1, 2, none⟩ = some (.slice pa pn pc) := by
      rcases wsq_lt2 hk hww with rfl | rfl
      · obtain ⟨o0, o1, o2, -⟩ := cells3 (show W2.drew.heap[w.heap.size + 1]? = _ from y1); exact ⟨o0, o1, o2⟩
      · obtain ⟨o0, o1, o2, -⟩ := cells3 ya1; exact ⟨o0, o1, o2⟩
    obtain ⟨o0, o1, o2⟩ := m
    unfold calmAt calmUpon
    go_simp
    try rfl
  (simp only [Act.put, List.setIfInBounds_toArray, List.set_cons_succ, List.set_cons_zero])
  refine chain_write (by kernel_rfl) rfl 1 rfl (by rfl) ?_
  apply Exists.intro
  refine ⟨fun ww hww => ?_, ?_⟩
  focus
    have e : Wa = ww := by simpa [wsq] using hww
    subst e
    unfold calmAt calmUpon
    go_simp
    refine HO1.out.mono ?_
    rintro e w1 ⟨rfl, rfl⟩
    exact ⟨rfl, rfl⟩
  (simp only [Act.put, List.setIfInBounds_toArray, List.set_cons_succ, List.set_cons_zero])
  refine chain_write (by kernel_rfl) rfl 2 rfl (by rfl) ?_
  apply Exists.intro
  refine ⟨fun ww hww => ?_, ?_⟩
  focus
    have e : Wb = ww := by simpa [wsq] using hww
    subst e
    unfold calmAt calmUpon
    go_simp
    refine ⟨rfl, ?_⟩
    rw [HWC.out, HBV.out]
    rfl
  (simp only [Act.put, List.setIfInBounds_toArray, List.set_cons_succ, List.set_cons_zero])
  refine chain_write (by kernel_rfl) rfl 3 rfl (by rfl) ?_
  apply Exists.intro
  refine ⟨fun ww hww => ?_, ?_⟩
  focus
    have e : Wc = ww := by simpa [wsq] using hww
    subst e
    exact calmAt_append (.tmp 25) (.tmp 28) 25 rfl _ _ rfl rfl HR2.out rfl
  (simp only [Act.put, List.setIfInBounds_toArray, List.set_cons_succ, List.set_cons_zero])
  (refine chain_pure rfl rfl ?_; apply Exists.intro; refine ⟨fun ww => ?_, ?_⟩; (focus (unfold calmAt calmUpon; go_simp; rfl)); (simp only [Act.put, List.setIfInBounds_toArray, List.set_cons_succ, List.set_cons_zero]))
  refine chain_write (by kernel_rfl) rfl 4 rfl (by rfl) ?_
  apply Exists.intro
  refine ⟨fun ww hww => ?_, ?_⟩
  focus
    have e : Wd = ww := by simpa [wsq] using hww
    subst e
    obtain ⟨o0, o1, o2, o3, fo⟩ := cells4 yd
    unfold calmAt calmUpon
    go_simp
    refine ⟨rfl, ?_⟩
    rw [HWE.out, HN2.out]
    rfl
  (simp only [Act.put, List.setIfInBounds_toArray, List.set_cons_succ, List.set_cons_zero])
  refine calm_nil ?_
  intro ww hww
  have e : We = ww := by simpa [wsq] using hww
  subst e
  clear hww ya ya1 yd
  obtain ⟨i0, i1, i2, i3, fi⟩ := cells4 ye
  obtain ⟨j0, j1, j2, fj⟩ := cells3 ye1
  go_wp2_with fail
  refine HLC.out.mono ?_
  rintro e W3 ⟨N3, rfl, T3⟩
  have hz3 := T3.1.below.size
  have y3 := old_box ye2 T3.1.below (by omega)
  obtain ⟨⟨q1, q2, q3, e1⟩, ⟨q4, q5, q6, e2⟩, ⟨q7, q8, q9, e3⟩, ⟨q10, q11, q12, e4⟩⟩ := T3.1.ok.forms
  have hv3 : N3.val = .agg #[.slice q1 q2 q3, .slice q4 q5 q6, .slice q7 q8 q9, .slice q10 q11 q12] := by unfold RNet.val; rw [e1, e2, e3, e4]
  have HE := Lib.hid (fun W5 => HEND.out W3 N3 T3 W5 _ hv3.symm)
  have HB3 := Lib.hid (HBE.out.trans (T3.1.below.mono (by have := HBE.out.size; omega)))
  rw [hv3]
  clear T3 e1 e2 e3 e4 hv3 i0 i1 i2 i3 fi j0 j1 j2 fj
  obtain ⟨l0, l1, l2, l3, fl⟩ := cells4a y3
  go_wp2_with fail
  exact bodyPost_ret (v := .tuple #[.agg #[.slice q1 q2 q3, .slice q4 q5 q6, .slice q7 q8 q9, .slice q10 q11 q12], .int .i64 (N.all.length : Nat), .int .i64 0]) (by simp [results, Try.results66, go_sem, l0, l1, l2, l3]) rfl
    (HE.out _ ((HB3.out.alloc HB3.out.size _).trans (box4_below (by omega) _ _ _ _)) (fun b hb hne => (box4_other _ _ _ _ hne).trans (old_at hb)))
end Go.Proofs.Ytiindnmelegkgaa
end
