/- Copy. -/
import Derived.Test.YtiindnmelegkgaaY2
namespace Go.Proofs.Ytiindnmelegkgaa
open Go.RowKit Go.Shelf
set_option linter.unusedSimpArgs false
set_option linter.unusedVariables false

theorem take_ids {N : List Fl} (h : N.Pairwise (fun x y => x.id < y.id)) {k : Nat} {x : Fl} (hx : N[k]? = some x) {fl : List Fl} (ha : fl.map Fl.abs = (N.take k).map Fl.abs) : ∀ y ∈ fl, y.id < x.id := by
  intro y hy
  have h1 : y.abs ∈ (N.take k).map Fl.abs := by rw [← ha]; exact List.mem_map_of_mem hy
  obtain ⟨z, hz, e⟩ := List.mem_map.1 h1
  have e' : z.id = y.id := congrArg AFl.id e
  obtain ⟨j, hj⟩ := List.mem_iff_getElem?.1 hz
  rw [List.getElem?_take] at hj
  split at hj
  · rename_i hjk
    obtain ⟨a, b⟩ := List.getElem?_eq_some_iff.1 hj
    obtain ⟨c, d⟩ := List.getElem?_eq_some_iff.1 hx
    have := List.pairwise_iff_getElem.1 h j k a c hjk
    rw [b, d] at this
    omega
  · cases hj

set_option maxHeartbeats 4000000 in
set_option maxRecDepth 100000 in
theorem copy_any {ρ : Nat → Nat} {w : World} {p : Nat} {N : Net} (R : Rep ρ w p N) (S : Small N) :
    Calls Try.prog 32 #[.pointer (some ⟨p, 0, none⟩)] w fun e w' => ∃ C, e = .returned (.pointer (some ⟨C, 0, none⟩)) ∧ CLoop w N C N.fl.length w' := by
  have hpl : p < w.heap.size := R.lt (by rw [R.rp]; decide)
  have bd : Below w.heap.size w w.drew := (Below.refl _ _).drew
  have R0 := R.below bd
  have zd : w.drew.heap.size = w.heap.size := rfl
  obtain ⟨v1, W1, o1, a1, b1, call1⟩ := clone52 w.drew N.vh N.hist R0.h (fun x hx => ownB_one (R0.hb x hx)) (by have := S.hist; omega)
  have R1 := R0.below b1
  obtain ⟨v2, W2, o2, a2, b2, call2⟩ := clone45x W1 N.ve N.evs R1.e (by have := S.evs; omega)
  have R2 := R1.below b2
  obtain ⟨v3, W3, o3, a3, ⟨om, hv3⟩, b3, call3⟩ := mclone54 W2 N.vm N.bl N.cnt R2.m
  have R3 := R2.below b3
  have z1 := b1.size
  have z2 := b2.size
  have z3 := b3.size
  rw [zd] at z1
  obtain ⟨W4, hW4⟩ : ∃ W4, W4 = W3.alloc (.cells #[.slice none 0 0, v1, v2, v3, .int .i64 N.next] 29) := ⟨_, rfl⟩
  obtain ⟨C, hC⟩ : ∃ C, W3.heap.size = C := ⟨_, rfl⟩
  have b4 : Below W3.heap.size W3 W4 := by rw [hW4]; exact (Below.refl _ _).alloc (Nat.le_refl _) _
  have R4 := R3.below b4
  have bw4 : Below w.heap.size w W4 := bd.trans (((b1.trans (b2.mono b1.size)).trans (b3.mono (Nat.le_trans b1.size b2.size))).trans (b4.mono (by rw [zd]; omega)))
  have c4 : W4.heap[C]? = some (.cells #[.slice none 0 0, v1, v2, v3, .int .i64 N.next] 29 (0, 0)) := by rw [hW4]; exact new_at hC.symm
  have bw1 : Below W1.heap.size W1 W4 := (b2.trans (b3.mono b2.size)).trans (b4.mono (Nat.le_trans b2.size b3.size))
  have bw2 : Below W2.heap.size W2 W4 := b3.trans (b4.mono b3.size)
  have START : CLoop w N C 0 W4 := by
    obtain ⟨ρ', R', hρ⟩ := Rep.bare (w := W4) (B := w.heap.size) (p := C) (N := N) (vh := v1) (ve := v2) (vm := v3) c4 (row_stays o1 fun b hb => bw1.block b (o1.lt b hb).2) (row_stays o2 fun b hb => bw2.block b (o2.lt b hb).2)
      (mapOk_stays o3 fun b hb => b4.block b (a3 b hb).2) R4.hb R4.hok (fun q hq b hb => R.lt (by rw [R.rhb q hq b hb]; decide)) W1.heap.size W2.heap.size
      (fun b hb => ⟨a1 b hb, (o1.lt b hb).2⟩) (fun b hb => ⟨a2 b hb, (o2.lt b hb).2⟩) (fun b hb => ⟨(a3 b hb).1, by have := (a3 b hb).2; omega⟩) z1 z2 (by omega)
    exact ⟨ρ', [], _, v1, v2, v3, R', by simp, rfl, hρ, bw4, by omega⟩
  have PC : ∀ k ww, k < 4 → wsq [w.drew, W1, W2, W3, W4] k ww → ww.heap[p]? = some (.cells #[N.vf, N.vh, N.ve, N.vm, .int .i64 N.next] 29 (0, 0)) := fun k ww hk hww => by
    match k, hk with
    | 0, _ => obtain rfl : w.drew = ww := by simpa [wsq] using hww
              exact R0.net
    | 1, _ => obtain rfl : W1 = ww := by simpa [wsq] using hww
              exact R1.net
    | 2, _ => obtain rfl : W2 = ww := by simpa [wsq] using hww
              exact R2.net
    | 3, _ => obtain rfl : W3 = ww := by simpa [wsq] using hww
              exact R3.net
  obtain ⟨q1a, q1c, hv1⟩ := row_slice o1
  obtain ⟨q2a, q2c, hv2⟩ := row_slice o2
  obtain ⟨fa, fc, hvf⟩ := row_slice R.f
  obtain ⟨n, hn⟩ : ∃ n, N.fl.length = n := ⟨_, rfl⟩
  rw [hn] at hvf
  have hn1 : n ≤ 1000000 := by have := S.fl; omega
  have n4 := R4.net
  rw [hvf] at n4
  have d0 : W4.cell? ⟨p, 0, none⟩ = some (.slice fa n fc) := by rw [cell_of_row _ _ _ _ _ _ n4]; rfl
  generalize N.hist.length = nh at hv1
  generalize N.evs.length = ne at hv2
  have HST := Lib.hid START
  have HPC := Lib.hid PC
  have HR := Lib.hid R
  have HC1 := Lib.hid call1
  have HC2 := Lib.hid call2
  have HC3 := Lib.hid call3
  have HW4 := Lib.hid hW4
  have HVF := Lib.hid hvf
  have HN := Lib.hid hn
  have HC := Lib.hid hC
  clear START PC R R0 R1 R2 R3 R4 call1 call2 call3 hW4 c4 bw1 bw2 bw4 b4 b3 b2 b1 z1 z2 z3 zd o1 o2 o3 a1 a2 a3 bd hvf hn hpl n4 hC S
  subst hv1 hv2 hv3
  go_enter Try.func32, Try.ntmps32
  go_wp2_with fail
  refine wp_region_chain (wsq [w.drew, W1, W2, W3, W4]) [4, 9, 14, 20] [(3, 1), (8, 2), (13, 3), (18, 4)] (by kernel_rfl) (by kernel_rfl) (by kernel_rfl) (by kernel_rfl) wsq_0 ?_
  iterate 3 (refine chain_pure rfl rfl ?_; apply Exists.intro; refine ⟨fun ww => ?_, ?_⟩; (focus (unfold calmAt calmUpon; go_simp; rfl)); (simp only [Act.put, List.setIfInBounds_toArray, List.set_cons_succ, List.set_cons_zero]))
  (refine chain_load rfl rfl 1 (by simp) ?_; apply Exists.intro; refine ⟨fun k ww hk hww => ?_, ?_⟩; (focus (have m := HPC.out k ww (by omega) hww; have m1 : ww.cell? ⟨p, 1, none⟩ = some N.vh := (by rw [cell_of_row _ _ _ _ _ _ m] <;> rfl)); unfold calmAt calmUpon; go_simp; rfl); (simp only [Act.put, List.setIfInBounds_toArray, List.set_cons_succ, List.set_cons_zero]))
  refine chain_write (by kernel_rfl) rfl 0 rfl (by rfl) ?_
  apply Exists.intro
  refine ⟨fun ww hww => ?_, ?_⟩
  focus
    obtain rfl : w.drew = ww := by simpa [wsq] using hww
    unfold calmAt calmUpon
    go_simp
    refine HC1.out.mono ?_
    rintro e w1 ⟨rfl, rfl⟩
    exact ⟨rfl, rfl⟩
  (simp only [Act.put, List.setIfInBounds_toArray, List.set_cons_succ, List.set_cons_zero])
  iterate 3 (refine chain_pure rfl rfl ?_; apply Exists.intro; refine ⟨fun ww => ?_, ?_⟩; (focus (unfold calmAt calmUpon; go_simp; rfl)); (simp only [Act.put, List.setIfInBounds_toArray, List.set_cons_succ, List.set_cons_zero]))
  (refine chain_load rfl rfl 2 (by simp) ?_; apply Exists.intro; refine ⟨fun k ww hk hww => ?_, ?_⟩; (focus (have m := HPC.out k ww (by omega) hww; have m1 : ww.cell? ⟨p, 2, none⟩ = some N.ve := (by rw [cell_of_row _ _ _ _ _ _ m] <;> rfl)); unfold calmAt calmUpon; go_simp; rfl); (simp only [Act.put, List.setIfInBounds_toArray, List.set_cons_succ, List.set_cons_zero]))
  refine chain_write (by kernel_rfl) rfl 1 rfl (by rfl) ?_
  apply Exists.intro
  refine ⟨fun ww hww => ?_, ?_⟩
  focus
    obtain rfl : W1 = ww := by simpa [wsq] using hww
    unfold calmAt calmUpon
    go_simp
    refine HC2.out.mono ?_
    rintro e w1 ⟨rfl, rfl⟩
    exact ⟨rfl, rfl⟩
  (simp only [Act.put, List.setIfInBounds_toArray, List.set_cons_succ, List.set_cons_zero])
  iterate 3 (refine chain_pure rfl rfl ?_; apply Exists.intro; refine ⟨fun ww => ?_, ?_⟩; (focus (unfold calmAt calmUpon; go_simp; rfl)); (simp only [Act.put, List.setIfInBounds_toArray, List.set_cons_succ, List.set_cons_zero]))
  (refine chain_load rfl rfl 3 (by simp) ?_; apply Exists.intro; refine ⟨fun k ww hk hww => ?_, ?_⟩; (focus (have m := HPC.out k ww (by omega) hww; have m1 : ww.cell? ⟨p, 3, none⟩ = some N.vm := (by rw [cell_of_row _ _ _ _ _ _ m] <;> rfl)); unfold calmAt calmUpon; go_simp; rfl); (simp only [Act.put, List.setIfInBounds_toArray, List.set_cons_succ, List.set_cons_zero]))
  refine chain_write (by kernel_rfl) rfl 2 rfl (by rfl) ?_
  apply Exists.intro
  refine ⟨fun ww hww => ?_, ?_⟩
  focus
    obtain rfl : W2 = ww := by simpa [wsq] using hww
    unfold calmAt calmUpon
    go_simp
    refine HC3.out.mono ?_
    rintro e w1 ⟨rfl, rfl⟩
    exact ⟨rfl, rfl⟩
  (simp only [Act.put, List.setIfInBounds_toArray, List.set_cons_succ, List.set_cons_zero])
  iterate 3 (refine chain_pure rfl rfl ?_; apply Exists.intro; refine ⟨fun ww => ?_, ?_⟩; (focus (unfold calmAt calmUpon; go_simp; rfl)); (simp only [Act.put, List.setIfInBounds_toArray, List.set_cons_succ, List.set_cons_zero]))
  (refine chain_load rfl rfl 4 (by simp) ?_; apply Exists.intro; refine ⟨fun k ww hk hww => ?_, ?_⟩; (focus (have m := HPC.out k ww (by omega) hww; have m1 : ww.cell? ⟨p, 4, none⟩ = some (.int .i64 N.next) := (by rw [cell_of_row _ _ _ _ _ _ m] <;> rfl)); unfold calmAt calmUpon; go_simp; rfl); (simp only [Act.put, List.setIfInBounds_toArray, List.set_cons_succ, List.set_cons_zero]))
  (refine chain_pure rfl rfl ?_; apply Exists.intro; refine ⟨fun ww => ?_, ?_⟩; (focus (unfold calmAt calmUpon; go_simp; rfl)); (simp only [Act.put, List.setIfInBounds_toArray, List.set_cons_succ, List.set_cons_zero]))
  refine chain_write (by kernel_rfl) rfl 3 rfl (by rfl) ?_
  apply Exists.intro
  refine ⟨fun ww hww => ?_, ?_⟩
  focus
    obtain rfl : W3 = ww := by simpa [wsq] using hww
    unfold calmAt calmUpon
    go_simp
    refine ⟨rfl, ?_⟩
    rw [HW4.out]
    rfl
  (simp only [Act.put, List.setIfInBounds_toArray, List.set_cons_succ, List.set_cons_zero])
  (refine chain_pure rfl rfl ?_; apply Exists.intro; refine ⟨fun ww => ?_, ?_⟩; (focus (unfold calmAt calmUpon; go_simp; rfl)); (simp only [Act.put, List.setIfInBounds_toArray, List.set_cons_succ, List.set_cons_zero]))
  refine calm_nil ?_
  intro ww hww
  obtain rfl : W4 = ww := by simpa [wsq] using hww
  clear hww
  rw [HC.out]
  go_wp2_with fail
  go_loopw [34] (fun i wr => ∃ k : Nat, i = .int .i64 k ∧ k ≤ n ∧ CLoop w N C k wr) (fun i _ => n - (intOf i).toNat)
  case atStart => exact ⟨0, rfl, Nat.zero_le _, HST.out⟩
  case round =>
    obtain ⟨k, rfl, hk, hL⟩ := hrel
    by_cases hlt : k < n
    · obtain ⟨ρ1, fl, vf, vh, ve, vm, R1, ha, hl, hρ, hb, hCw⟩ := hL
      obtain ⟨x, hx⟩ : ∃ x, N.fl[k]? = some x := ⟨_, List.getElem?_eq_getElem (show k < N.fl.length by rw [HN.out]; exact hlt)⟩
      have hxm := List.mem_of_getElem? hx
      have Rw := HR.out.below hb
      have rf := Rw.f
      rw [HVF.out, HN.out] at rf
      obtain ⟨g0, c0, -, hfa, -⟩ := row_addr rf (by omega)
      simp only [Value.slice.injEq, true_and] at hfa
      obtain ⟨rfl, rfl⟩ := hfa
      have m0 := fl_at rf hx HN.out 0 (by decide)
      have m1 := fl_at rf hx HN.out 1 (by decide)
      have m2 := fl_at rf hx HN.out 2 (by decide)
      have m3 := fl_at rf hx HN.out 3 (by decide)
      have m4 := fl_at rf hx HN.out 4 (by decide)
      have hxo := Rw.fb x hxm
      have hxv := Rw.fok x hxm
      have hv := hxv
      simp only [validB, Bool.and_eq_true, decide_eq_true_eq] at hv
      obtain ⟨bv, X2, g, c, X4, X5, P⟩ := push_worlds R1 x (ownB_rd hxo (by omega)) hxv (take_ids Rw.ids hx ha) (Rw.idn x hxm) (by dsimp only; omega)
      have NX := Lib.hid (CLoop.next R1 ha hl hρ hb hCw hx P)
      obtain ⟨ba, bc, hbv⟩ := ownB_slice hxo
      obtain ⟨va, vc, hsl⟩ := P.sl
      obtain ⟨⟨frm, to, bv0, bs⟩, id, src⟩ := x
      dsimp only at hbv hsl P
      obtain ⟨bl, hbl⟩ : ∃ bl, bs.length = bl := ⟨_, rfl⟩
      rw [hbl] at hbv hsl
      subst hbv hsl
      simp [Fl.cells] at m0 m1 m2 m3 m4
      have call := P.call
      have run := P.run
      have x5 := P.x5
      have n1 := P.n1
      have n2 := P.n2
      have n3 := P.n3
      have n4 := P.n4
      have q1 := P.b1
      have q2 := P.b2
      unfold Fl.cells at call run n1 n3 q1 q2
      unfold Pk.val at call
      dsimp only at call run x5 n1 n2 n3 n4 q1 q2
      obtain ⟨X1, hX1⟩ : ∃ X1, X1 = (wr.alloc (.cells #[.string frm, .string to, .slice ba bl bc, .int .i64 id, .int .i64 src] 81)).drew := ⟨_, rfl⟩
      obtain ⟨X3, hX3⟩ : ∃ X3, X3 = X2.alloc (.cells #[.string frm, .string to, .slice va bl vc, .int .i64 id, .int .i64 src] 81) := ⟨_, rfl⟩
      rw [← hX1] at call n1 q1
      rw [← hX3] at run n3
      have F1 : ∀ k ww, k < 3 → wsq [X1, X2, X3, X4, X5] k ww → ww.heap[C]? = some (.cells #[vf, vh, ve, vm, .int .i64 N.next] 29 (0, 0)) := fun k ww hk hww => by
        rcases wsq_lt3 hk hww with rfl | rfl | rfl
        · exact n1
        · exact n2
        · exact n3
      have F2 : ∀ k ww, k < 2 → wsq [X1, X2, X3, X4, X5] k ww → ww.heap[wr.heap.size]? = some (.cells #[.string frm, .string to, .slice ba bl bc, .int .i64 id, .int .i64 src] 81 (0, 0)) := fun k ww hk hww => by
        rcases wsq_lt2 hk hww with rfl | rfl
        · exact q1
        · exact q2
      have HF1 := Lib.hid F1
      have HF2 := Lib.hid F2
      have HX1 := Lib.hid hX1
      have HX3 := Lib.hid hX3
      have HX5 := Lib.hid x5
      have HCL := Lib.hid call
      have HRN := Lib.hid run
      have HN4 := Lib.hid n4
      clear F1 F2 hX1 hX3 x5 call run n1 n2 n3 n4 q1 q2 P hxo hxv hv hx hxm rf Rw R1 ha hl hρ hb hbl
      go_wp2_with fail
      refine wp_region_chain (wsq [X1, X2, X3, X4, X5]) [7, 13, 14, 17] [(4, 3), (6, 1), (9, 2), (11, 2)] (by kernel_rfl) (by kernel_rfl) (by kernel_rfl) (by kernel_rfl) (by rw [HX1.out]; exact wsq_0) ?_
      iterate 4 (refine chain_pure rfl rfl ?_; apply Exists.intro; refine ⟨fun ww => ?_, ?_⟩; (focus (unfold calmAt calmUpon; go_simp; rfl)); (simp only [Act.put, List.setIfInBounds_toArray, List.set_cons_succ, List.set_cons_zero]))
      (refine chain_load rfl rfl 3 (by simp) ?_; apply Exists.intro; refine ⟨fun k ww hk hww => ?_, ?_⟩; (focus (have m := HF1.out k ww (by omega) hww; have m1 : ww.cell? ⟨C, 0, none⟩ = some vf := (by rw [cell_of_row _ _ _ _ _ _ m] <;> rfl)); unfold calmAt calmUpon; go_simp; rfl); (simp only [Act.put, List.setIfInBounds_toArray, List.set_cons_succ, List.set_cons_zero]))
      (refine chain_pure rfl rfl ?_; apply Exists.intro; refine ⟨fun ww => ?_, ?_⟩; (focus (unfold calmAt calmUpon; go_simp; rfl)); (simp only [Act.put, List.setIfInBounds_toArray, List.set_cons_succ, List.set_cons_zero]))
      (refine chain_load rfl rfl 1 (by simp) ?_; apply Exists.intro; refine ⟨fun k ww hk hww => ?_, ?_⟩; (focus (have m := HF2.out k ww (by omega) hww; have m0 : ww.cell? ⟨wr.heap.size, 0, none⟩ = some (.string frm) := (by rw [cell_of_row _ _ _ _ _ _ m] <;> rfl); have m1 : ww.cell? ⟨wr.heap.size, 1, none⟩ = some (.string to) := (by rw [cell_of_row _ _ _ _ _ _ m] <;> rfl); have m2 : ww.cell? ⟨wr.heap.size, 2, none⟩ = some (.slice ba bl bc) := (by rw [cell_of_row _ _ _ _ _ _ m] <;> rfl)); unfold calmAt calmUpon; go_simp; rfl); (simp only [Act.put, List.setIfInBounds_toArray, List.set_cons_succ, List.set_cons_zero]))
      refine chain_write (by kernel_rfl) rfl 0 rfl (by rfl) ?_
      apply Exists.intro
      refine ⟨fun ww hww => ?_, ?_⟩
      focus
        obtain rfl : X1 = ww := by simpa [wsq] using hww
        unfold calmAt calmUpon
        go_simp
        refine HCL.out.mono ?_
        rintro e w1 ⟨rfl, rfl⟩
        exact ⟨rfl, rfl⟩
      (simp only [Act.put, List.setIfInBounds_toArray, List.set_cons_succ, List.set_cons_zero])
      (refine chain_pure rfl rfl ?_; apply Exists.intro; refine ⟨fun ww => ?_, ?_⟩; (focus (unfold calmAt calmUpon; go_simp; rfl)); (simp only [Act.put, List.setIfInBounds_toArray, List.set_cons_succ, List.set_cons_zero]))
      (refine chain_load rfl rfl 2 (by simp) ?_; apply Exists.intro; refine ⟨fun k ww hk hww => ?_, ?_⟩; (focus (have m := HF2.out k ww (by omega) hww; have m0 : ww.cell? ⟨wr.heap.size, 3, none⟩ = some (.int .i64 id) := (by rw [cell_of_row _ _ _ _ _ _ m] <;> rfl)); unfold calmAt calmUpon; go_simp; rfl); (simp only [Act.put, List.setIfInBounds_toArray, List.set_cons_succ, List.set_cons_zero]))
      (refine chain_pure rfl rfl ?_; apply Exists.intro; refine ⟨fun ww => ?_, ?_⟩; (focus (unfold calmAt calmUpon; go_simp; rfl)); (simp only [Act.put, List.setIfInBounds_toArray, List.set_cons_succ, List.set_cons_zero]))
      (refine chain_load rfl rfl 2 (by simp) ?_; apply Exists.intro; refine ⟨fun k ww hk hww => ?_, ?_⟩; (focus (have m := HF2.out k ww (by omega) hww; have m0 : ww.cell? ⟨wr.heap.size, 4, none⟩ = some (.int .i64 src) := (by rw [cell_of_row _ _ _ _ _ _ m] <;> rfl)); unfold calmAt calmUpon; go_simp; rfl); (simp only [Act.put, List.setIfInBounds_toArray, List.set_cons_succ, List.set_cons_zero]))
      (refine chain_pure rfl rfl ?_; apply Exists.intro; refine ⟨fun ww => ?_, ?_⟩; (focus (unfold calmAt calmUpon; go_simp; rfl)); (simp only [Act.put, List.setIfInBounds_toArray, List.set_cons_succ, List.set_cons_zero]))
      refine chain_write (by kernel_rfl) rfl 1 rfl (by rfl) ?_
      apply Exists.intro
      refine ⟨fun ww hww => ?_, ?_⟩
      focus
        obtain rfl : X2 = ww := by simpa [wsq] using hww
        unfold calmAt calmUpon
        go_simp
        refine ⟨rfl, ?_⟩
        rw [HX3.out]
        rfl
      (simp only [Act.put, List.setIfInBounds_toArray, List.set_cons_succ, List.set_cons_zero])
      refine chain_write (by kernel_rfl) rfl 2 rfl (by rfl) ?_
      apply Exists.intro
      refine ⟨fun ww hww => ?_, ?_⟩
      focus
        obtain rfl : X3 = ww := by simpa [wsq] using hww
        exact calmAt_append (.tmp 42) (.tmp 51) 24 rfl _ _ rfl rfl HRN.out rfl
      (simp only [Act.put, List.setIfInBounds_toArray, List.set_cons_succ, List.set_cons_zero])
      iterate 2 (refine chain_pure rfl rfl ?_; apply Exists.intro; refine ⟨fun ww => ?_, ?_⟩; (focus (unfold calmAt calmUpon; go_simp; rfl)); (simp only [Act.put, List.setIfInBounds_toArray, List.set_cons_succ, List.set_cons_zero]))
      refine chain_write (by kernel_rfl) rfl 3 rfl (by rfl) ?_
      apply Exists.intro
      refine ⟨fun ww hww => ?_, ?_⟩
      focus
        obtain rfl : X4 = ww := by simpa [wsq] using hww
        have m0 : X4.cell? ⟨C, 0, none⟩ = some vf := by rw [cell_of_row _ _ _ _ _ _ HN4.out]; rfl
        have g0 := frozen_blk HN4.out 0
        unfold calmAt calmUpon
        go_simp
        refine ⟨rfl, ?_⟩
        rw [HX5.out]
        rfl
      (simp only [Act.put, List.setIfInBounds_toArray, List.set_cons_succ, List.set_cons_zero])
      refine calm_nil ?_
      intro ww hww
      obtain rfl : X5 = ww := by simpa [wsq] using hww
      clear hww
      go_wp2_with fail
      go_roundw
      case rel => exact ⟨k + 1, by simp, by omega, NX.out⟩
      case measure => simp [intOf]; omega
    · obtain rfl : k = n := by omega
      go_wp2_with fail
      go_ret
      exact ⟨C, rfl, by rw [HN.out]; exact hL⟩
end Go.Proofs.Ytiindnmelegkgaa
