/- NetworkFinds: behind any acts, Source and Genuine of any identifier are the reference's. Condition: none beyond the statement's. -/
import Derived.Test.YtiindnmelegkgaaD5
import Derived.Test.YtiindnmelegkgaaC4
namespace Go.Proofs.Ytiindnmelegkgaa.networkFinds
open Go.ChangeShapes Go.WideShapes Go.ChangeAt Go.RowKit
set_option linter.unusedSimpArgs false
set_option linter.unusedVariables false

set_option maxHeartbeats 4000000 in
set_option maxRecDepth 100000 in
theorem walk_ok (w : World) (v : Value) (l : List ActA) (h : ActsAt w v l) (id : Int) (hid : I64 id) (hf : fewA l 30 = true) : Calls Try.prog 6 #[v, .int .i64 id] w fun e w' => e = .returned (.bool true) ∧ Below w.heap.size w w' := by
  obtain ⟨sa, sc, hv⟩ := h.at_.1
  obtain ⟨n, hn⟩ : ∃ n, l.length = n := ⟨_, rfl⟩
  rw [hn] at hv
  have hn30 : n ≤ 30 := by simp only [fewA, Bool.and_eq_true, decide_eq_true_eq] at hf; omega
  have hfw : ∀ x ∈ l, x.few = true := by simp only [fewA, Bool.and_eq_true, List.all_eq_true] at hf; exact hf.2
  have HF := Lib.hid (few_any w v l h 30 (by decide))
  rw [hf] at HF
  have HFW := Lib.hid hfw
  have HA := Lib.hid h
  have HN := Lib.hid hn
  have ST : Hid (LSt [] w (w.heap.size + 1) 0 [] (.pointer (some ⟨w.heap.size, 0, none⟩)) ((w.alloc (.cells #[.slice none 0 0, .slice none 0 0, .slice none 0 0, .map none, .int .i64 0] 29)).alloc (.cells #[.slice none 0 0, .slice none 0 0, .slice none 0 0, .slice none 0 0] 64))) := Lib.hid (by
    have := (PS.new w).box (.cells #[.slice none 0 0, .slice none 0 0, .slice none 0 0, .slice none 0 0] 64)
    simp only [World.size_alloc] at this
    exact ⟨_, _, RN0, rfl, RN0_pair, this⟩)
  subst hv
  clear hf hfw h hn
  go_enter Try.func6, Try.ntmps6
  go_wp2_with fail
  refine HF.out.mono ?_
  rintro e w1 ⟨rfl, rfl⟩
  go_wp2_with fail
  go_loopw [5, 7, 8] (fun nv fv i wr => ∃ k : Nat, fv = .bool true ∧ i = .int .i64 k ∧ k ≤ n ∧ LSt [] w (w.heap.size + 1) (2 * k) [] nv wr) (fun _ _ i _ => n - (intOf i).toNat)
  case atStart => exact ⟨0, rfl, rfl, Nat.zero_le _, ST.out⟩
  case round =>
    obtain ⟨k, rfl, rfl, hk, p, A, RN, rfl, hP, hS⟩ := hrel
    by_cases hlt : k < n
    · obtain ⟨b, off, c, hv'⟩ := HA.out.form (by rw [HN.out]; omega)
      rw [HN.out] at hv'
      simp only [Value.slice.injEq, true_and] at hv'
      obtain ⟨rfl, rfl⟩ := hv'
      obtain ⟨x, hx⟩ : ∃ x, l[k]? = some x := ⟨l[k]'(by rw [HN.out]; exact hlt), List.getElem?_eq_getElem _⟩
      have hxm := List.mem_of_getElem? hx
      have HAr := HA.out.below hS.lower
      have cc := HAr.cell hx
      have hblt : b < w.heap.size := by
        rcases HA.out.at_.2 with h | ⟨b', off', c', hv, hlt', _⟩
        · rw [h] at hx; simp at hx
        · cases hv; exact hlt'
      obtain ⟨ba, bc, hbv⟩ := (HA.out.ok x hxm).sl
      obtain ⟨bn, hbn⟩ : ∃ bn, x.p.bs.length = bn := ⟨_, rfl⟩
      rw [hbn] at hbv
      have e0 := cc 0 (by decide)
      have e1 := cc 1 (by decide)
      have e2 := cc 2 (by decide)
      have e3 := cc 3 (by decide)
      have e4 := cc 4 (by decide)
      have e5 := cc 5 (by decide)
      have e6 := cc 6 (by decide)
      simp [ActA.cells, hbv] at e0 e1 e2 e3 e4 e5 e6
      obtain ⟨⟨a1, n1, k1, ha1⟩, ⟨a2, n2, k2, ha2⟩, ⟨a3, n3, k3, ha3⟩, ⟨a4, n4, k4, ha4⟩⟩ := hS.rok.forms
      have hy := hS.at_ (List.mem_cons_self ..)
      dsimp only at hy
      rw [ha1, ha2, ha3, ha4] at hy
      obtain ⟨r0, r1, r2, r3, -⟩ := cells4 hy
      have CL := Lib.hid (do_ok (hS.below (Below.refl _ _).drew) hP (by omega) x (HA.out.ok x hxm) (HFW.out x hxm))
      rw [show RN.val = .agg #[.slice a1 n1 k1, .slice a2 n2 k2, .slice a3 n3 k3, .slice a4 n4 k4] by unfold RNet.val; rw [ha1, ha2, ha3, ha4], show x.val = .agg #[.int .i64 x.what, .int .i64 x.id, .int .i64 x.off, .int .u8 x.m, .string x.p.frm, .string x.p.to, .slice ba bn bc] by unfold ActA.val; rw [hbv]] at CL
      have HS := Lib.hid hS
      clear cc hx hxm hbv hbn hS hP HAr hy
      have HH1 := Lib.hid ha1
      have HH2 := Lib.hid ha2
      have HH3 := Lib.hid ha3
      have HH4 := Lib.hid ha4
      clear ha1 ha2 ha3 ha4
      go_wp2_with fail
      refine wp_region_bar (by kernel_rfl) 14 (by rfl) ?_
      refine (show wpAny _ _ _ _ (6 + (7 + 1)) _ _ _ from ?_)
      have F2 : ∀ ww kk, kk < 1 → wsq [wr.drew] kk ww → (ww.cell? ⟨w.heap.size + 1, 0, none⟩ = some (.slice a1 n1 k1) ∧ ww.cell? ⟨w.heap.size + 1, 1, none⟩ = some (.slice a2 n2 k2) ∧ ww.cell? ⟨w.heap.size + 1, 2, none⟩ = some (.slice a3 n3 k3) ∧ ww.cell? ⟨w.heap.size + 1, 3, none⟩ = some (.slice a4 n4 k4)) ∧
          ww.cell? ⟨b, off + k * 7, none⟩ = some (.int .i64 x.what) ∧ ww.cell? ⟨b, off + k * 7 + 1, none⟩ = some (.int .i64 x.id) ∧ ww.cell? ⟨b, off + k * 7 + 2, none⟩ = some (.int .i64 x.off) ∧ ww.cell? ⟨b, off + k * 7 + 3, none⟩ = some (.int .u8 x.m) ∧ ww.cell? ⟨b, off + k * 7 + 4, none⟩ = some (.string x.p.frm) ∧ ww.cell? ⟨b, off + k * 7 + 5, none⟩ = some (.string x.p.to) ∧ ww.cell? ⟨b, off + k * 7 + 6, none⟩ = some (.slice ba bn bc) := fun ww kk hk hww => by
        have e := wsq_lt1 hk hww
        rw [e]
        exact ⟨⟨r0, r1, r2, r3⟩, e0, e1, e2, e3, e4, e5, e6⟩
      have H2 := Lib.hid F2
      clear F2 e0 e1 e2 e3 e4 e5 e6 r0 r1 r2 r3
      refine wpAny_ahead_chain (like_self _) (by rfl) [0, 1, 2, 3, 4, 5] 6 7 (wsq [wr.drew]) [] [(1, 1), (5, 1)] (by kernel_rfl) (by kernel_rfl) (by kernel_rfl) (by kernel_rfl) (by kernel_rfl) (by kernel_rfl) (by kernel_rfl) wsq_0 ?_
      (refine ord_pure rfl rfl ?_; apply Exists.intro; refine ⟨fun ww => ?_, ?_⟩; (focus (unfold calmAt calmUpon; go_simp; rfl)); (simp only [Act.put, List.setIfInBounds_toArray, List.set_cons_succ, List.set_cons_zero]))
      (refine ord_load rfl rfl 1 (by simp) ?_; apply Exists.intro; refine ⟨fun k ww hk hww => ?_, ?_⟩; (focus (have cc := H2.out ww k hk hww; unfold calmAt calmUpon; go_simp; try rfl)); (simp only [Act.put, List.setIfInBounds_toArray, List.set_cons_succ, List.set_cons_zero]))
      iterate 3 (refine ord_pure rfl rfl ?_; apply Exists.intro; refine ⟨fun ww => ?_, ?_⟩; (focus (unfold calmAt calmUpon; go_simp; rfl)); (simp only [Act.put, List.setIfInBounds_toArray, List.set_cons_succ, List.set_cons_zero]))
      (refine ord_load rfl rfl 1 (by simp) ?_; apply Exists.intro; refine ⟨fun k ww hk hww => ?_, ?_⟩; (focus (have cc := H2.out ww k hk hww; unfold calmAt calmUpon; go_simp; try rfl)); (simp only [Act.put, List.setIfInBounds_toArray, List.set_cons_succ, List.set_cons_zero]))
      refine ord_nil ?_
      intro ww hww
      obtain rfl : wr.drew = ww := by simpa [wsq] using hww
      refine wpOp_like (like_self _) rfl rfl ?_
      unfold Oper.wp
      go_simp
      refine CL.out.mono ?_
      rintro e W3 ⟨p', A', RN', rfl, hP3, hS3⟩
      obtain ⟨⟨q1a, q1n, q1c, u1⟩, ⟨q2a, q2n, q2c, u2⟩, ⟨q3a, q3n, q3c, u3⟩, ⟨q4a, q4n, q4c, u4⟩⟩ := hS3.rok.forms
      have hv : RN'.val = .agg #[.slice q1a q1n q1c, .slice q2a q2n q2c, .slice q3a q3n q3c, .slice q4a q4n q4c] := by unfold RNet.val; rw [u1, u2, u3, u4]
      have hy := hS3.at_ (List.mem_cons_self ..)
      dsimp only at hy
      rw [HH1.out, HH2.out, HH3.out, HH4.out] at hy
      obtain ⟨W4, hW4⟩ : ∃ W4, W4 = ((((W3.setCell ⟨w.heap.size + 1, 0, none⟩ (.slice q1a q1n q1c)).setCell ⟨w.heap.size + 1, 1, none⟩ (.slice q2a q2n q2c)).setCell ⟨w.heap.size + 1, 2, none⟩ (.slice q3a q3n q3c)).setCell ⟨w.heap.size + 1, 3, none⟩ (.slice q4a q4n q4c)) := ⟨_, rfl⟩
      have hS4 : LSt [] w (w.heap.size + 1) (2 * (k + 1)) [] (.pointer (some ⟨p', 0, none⟩)) W4 := by
        refine ⟨p', A', RN', rfl, hP3, ?_⟩
        rw [hW4, ← u1, ← u2, ← u3, ← u4]
        exact hS3.put4 (by omega) (by simp) _ _ _ _
      have HW4 := Lib.hid hW4
      have HS4 := Lib.hid hS4
      have HY := Lib.hid hy
      rw [hv]
      clear hW4 hS4 hS3 hP3 u1 u2 u3 u4 hv hy
      refine wpAny_behind_chain (like_self _) (by rfl) [0, 1, 2, 3, 4, 5, 6] [7, 8, 9, 10, 11, 12, 13] (wsq [W3, W4]) [12] [] (by kernel_rfl) (by kernel_rfl) (by kernel_rfl) (by kernel_rfl) (by kernel_rfl) (by kernel_rfl) (by kernel_rfl) (by kernel_rfl) (by kernel_rfl) wsq_0 ?_
      iterate 5 (refine ord_pure rfl rfl ?_; apply Exists.intro; refine ⟨fun ww => ?_, ?_⟩; (focus (unfold calmAt calmUpon; go_simp; rfl)); (simp only [Act.put, List.setIfInBounds_toArray, List.set_cons_succ, List.set_cons_zero]))
      refine ord_write (by kernel_rfl) rfl 0 rfl (by rfl) ?_
      apply Exists.intro
      refine ⟨fun ww hww => ?_, ?_⟩
      focus
        obtain rfl : W3 = ww := by simpa [wsq] using hww
        obtain ⟨t0, t1, t2, t3, fo⟩ := cells4 HY.out
        unfold calmAt calmUpon
        go_simp
        refine ⟨rfl, ?_⟩
        rw [HW4.out]
        rfl
      (simp only [Act.put, List.setIfInBounds_toArray, List.set_cons_succ, List.set_cons_zero])
      (refine ord_pure rfl rfl ?_; apply Exists.intro; refine ⟨fun ww => ?_, ?_⟩; (focus (unfold calmAt calmUpon; go_simp; rfl)); (simp only [Act.put, List.setIfInBounds_toArray, List.set_cons_succ, List.set_cons_zero]))
      refine ord_nil ?_
      intro ww hww
      obtain rfl : W4 = ww := by simpa [wsq] using hww
      clear hww
      go_wp2_with fail
      go_roundw
      case rel => exact ⟨k + 1, rfl, by simp, by omega, HS4.out⟩
      case measure => simp [intOf]; omega
    · obtain rfl : k = n := by omega
      have hsm := hP.rsmall (by omega)
      have HB0 := Lib.hid hS.lower
      obtain ⟨ρ, N, R, rfl, -⟩ := hS.use
      have T := hP.cons.tiny (by omega)
      have SRC := Lib.hid (source_all R T.small id hid.1 hid.2)
      have GEN : Hid (∀ ww, Below wr.heap.size wr ww → Calls Try.prog 16 #[.pointer (some ⟨p, 0, none⟩), .int .i64 id] ww fun e w' => e = .returned (.tuple #[.bool (N.abs.genuine id).1, .int .i64 (N.abs.genuine id).2]) ∧ Below ww.heap.size ww w') := Lib.hid fun ww hww => genuine_all (R.below hww) T.small id (fun y hy => by
        have := hP.cons.src y.abs (List.mem_map_of_mem hy)
        rw [abs_hist] at this
        exact this) hid.1 hid.2
      obtain ⟨⟨a1, n1, k1, ha1⟩, ⟨a2, n2, k2, ha2⟩, ⟨a3, n3, k3, ha3⟩, ⟨a4, n4, k4, ha4⟩⟩ := hS.rok.forms
      have HVAL : Hid (RN.val = .agg #[.slice a1 n1 k1, .slice a2 n2 k2, .slice a3 n3 k3, .slice a4 n4 k4]) := Lib.hid (by unfold RNet.val; rw [ha1, ha2, ha3, ha4])
      have hy := hS.at_ (List.mem_cons_self ..)
      dsimp only at hy
      rw [ha1, ha2, ha3, ha4] at hy
      have REFC : Hid (∀ ww, Below wr.heap.size wr ww → ww.cell? ⟨w.heap.size + 1, 0, none⟩ = some (.slice a1 n1 k1) ∧ ww.cell? ⟨w.heap.size + 1, 1, none⟩ = some (.slice a2 n2 k2) ∧ ww.cell? ⟨w.heap.size + 1, 2, none⟩ = some (.slice a3 n3 k3) ∧ ww.cell? ⟨w.heap.size + 1, 3, none⟩ = some (.slice a4 n4 k4)) := Lib.hid fun ww hww => by
        obtain ⟨r0, r1, r2, r3, -⟩ := cells4 ((hww.block _ (Array.getElem?_eq_some_iff.1 hy).1).trans hy)
        exact ⟨r0, r1, r2, r3⟩
      have FLY : Hid (∀ ww, Below wr.heap.size wr ww → Calls Try.prog 26 #[.agg #[.slice a1 n1 k1, .slice a2 n2 k2, .slice a3 n3 k3, .slice a4 n4 k4], .int .i64 id] ww fun e w' => e = .returned (.bool (RN.abs.flies id)) ∧ Below ww.heap.size ww w') := Lib.hid fun ww hww => by
        have h := flies_any RN ww (hS.rok.below hww) hsm id
        rw [HVAL.out, ← flies_abs] at h
        exact h
      have HRK := Lib.hid hS.rok
      have HPP := Lib.hid hP
      have HSM := Lib.hid hsm
      have HA1 := Lib.hid ha1
      clear hS hP T R hy ha1 ha2 ha3 ha4 hsm
      have END : Hid (∀ W5 W6, Below wr.heap.size wr W5 → Below W5.heap.size W5 W6 → Below w.heap.size w W6) := Lib.hid fun W5 W6 h5 h6 => (HB0.out.trans (h5.mono HB0.out.size)).trans (h6.mono (Nat.le_trans HB0.out.size h5.size))
      by_cases hfl : RN.abs.flies id = false
      · have hA : N.abs.source id = (0, 9) ∧ N.abs.genuine id = (false, 9) := by
          unfold Abs.source Abs.genuine
          rw [HPP.out.sim.miss hfl]
          exact ⟨rfl, rfl⟩
        rw [hA.1] at SRC
        rw [hA.2] at GEN
        rw [hfl] at FLY
        clear hA hfl
        go_wp2_with fail
        refine SRC.out.mono ?_
        rintro e w1 ⟨rfl, hb1⟩
        have HB1 := Lib.hid hb1
        clear hb1
        go_wp2_with fail
        refine (GEN.out w1 HB1.out).mono ?_
        rintro e w2 ⟨rfl, hb2⟩
        have B2 := Lib.hid (HB1.out.trans (hb2.mono HB1.out.size))
        obtain ⟨r0, r1, r2, r3⟩ := REFC.out w2 B2.out
        clear hb2
        go_wp2_with fail
        refine (FLY.out w2 B2.out).mono ?_
        rintro e w3 ⟨rfl, hb3⟩
        have B3 := Lib.hid (B2.out.trans (hb3.mono B2.out.size))
        clear hb3 r0 r1 r2 r3
        go_wp2_with fail
        refine (known_any _).mono ?_
        rintro e w4 ⟨rfl, hb4⟩
        have E4 := Lib.hid (END.out _ _ B3.out hb4)
        clear hb4
        go_wp2_with fail
        go_ret
        exact ⟨rfl, E4.out⟩
      · have hfl' : RN.abs.flies id = true := by simpa using hfl
        obtain ⟨i', j, hj, hx, hg, hfd, -, -⟩ := HPP.out.sim.hit hfl'
        have hRA : RN.abs.all = RN.all.map RFl.abs := rfl
        rw [hRA] at hx
        obtain ⟨xr, hxr, hxa⟩ := map_get hx
        obtain ⟨hsl, hgen⟩ := HPP.out.genu hxr (by have : xr.abs.gone = false := by rw [hxa]; exact hg
                                                   exact this)
        have hA : N.abs.source id = (xr.src, 0) ∧ N.abs.genuine id = (genuR RN xr, 0) := by
          unfold Abs.source Abs.genuine
          rw [hfd, ← hgen, ← hxa]
          exact ⟨rfl, rfl⟩
        rw [hA.1] at SRC
        rw [hA.2] at GEN
        rw [hfl'] at FLY
        have RGEN : Hid (∀ ww, Below wr.heap.size wr ww → Calls Try.prog 27 #[.agg #[.slice a1 n1 k1, .slice a2 n2 k2, .slice a3 n3 k3, .slice a4 n4 k4], .int .i64 id] ww fun e w' => e = .returned (.bool (genuR RN xr)) ∧ Below ww.heap.size ww w') := Lib.hid fun ww hww => by
          have h := rgenuine_any RN ww (HRK.out.below hww) HSM.out j xr hxr hsl
          rw [HVAL.out, ← hj] at h
          exact h
        have hjl : j < RN.all.length := (List.getElem?_eq_some_iff.1 hxr).1
        obtain ⟨g0, c0, hva⟩ := slice_box HRK.out.a (by omega)
        have ea := HA1.out
        rw [hva] at ea
        simp only [Value.slice.injEq] at ea
        obtain ⟨ea1, ea2, ea3⟩ := ea
        have ra := HRK.out.a
        rw [hva] at ra
        have hgl : g0 < wr.heap.size := (ra.lt g0 rfl).2
        obtain ⟨ra1, ra2, hrbv⟩ := ownB_slice (HRK.out.ab xr (List.mem_of_getElem? hxr))
        have E3 := el_at (f := RFl.cells) (fun _ => rfl) ra hxr rfl 3 (by decide)
        simp [RFl.cells, hrbv] at E3
        have hjn : j < n1 := by rw [← ea2]; exact hjl
        have hn1 : n1 ≤ 1000000 := by rw [← ea2]; exact HSM.out.all
        have a1e : a1 = some ⟨g0, 0, none⟩ := ea1.symm
        subst a1e
        have ROWC : Hid (∀ ww, Below wr.heap.size wr ww → ww.cell? ⟨g0, j * 5 + 3, none⟩ = some (.int .i64 xr.src)) := Lib.hid fun ww hww => bcells hww hgl E3
        subst hj
        generalize hgy : genuR RN xr = gy at *
        clear hA hfl hfl' hx hg hfd hxr hxa hsl hgen hjl hva ea1 ea2 ea3 ra hgl hrbv E3 hgy
        go_wp2_with fail
        refine SRC.out.mono ?_
        rintro e w1 ⟨rfl, hb1⟩
        have HB1 := Lib.hid hb1
        clear hb1
        go_wp2_with fail
        refine (GEN.out w1 HB1.out).mono ?_
        rintro e w2 ⟨rfl, hb2⟩
        have B2 := Lib.hid (HB1.out.trans (hb2.mono HB1.out.size))
        obtain ⟨r0, r1, r2, r3⟩ := REFC.out w2 B2.out
        clear hb2
        go_wp2_with fail
        refine (FLY.out w2 B2.out).mono ?_
        rintro e w3 ⟨rfl, hb3⟩
        have B3 := Lib.hid (B2.out.trans (hb3.mono B2.out.size))
        have ro := ROWC.out w3 B3.out
        clear hb3 r0 r1 r2 r3
        obtain ⟨r0, r1, r2, r3⟩ := REFC.out w3 B3.out
        have hgg : (gy == gy) = true := by simp
        go_wp2_with fail
        refine (RGEN.out w3 B3.out).mono ?_
        rintro e w4 ⟨rfl, hb4⟩
        have B4 := Lib.hid (B3.out.trans (hb4.mono B3.out.size))
        clear hb4 r0 r1 r2 r3 ro
        go_wp2_with fail
        refine (known_any _).mono ?_
        rintro e w5 ⟨rfl, hb5⟩
        have E5 := Lib.hid (END.out _ _ B4.out hb5)
        clear hb5
        go_wp2_with fail
        go_ret
        exact ⟨rfl, E5.out⟩

set_option maxHeartbeats 1000000 in
set_option maxRecDepth 100000 in
theorem walk_no (w : World) (v : Value) (l : List ActA) (h : ActsAt w v l) (id : Int) (hid : I64 id) (hf : fewA l 30 = false) : Calls Try.prog 6 #[v, .int .i64 id] w fun e w' => e = .returned (.bool true) ∧ Below w.heap.size w w' := by
  obtain ⟨sa, sc, hv⟩ := h.at_.1
  have HF := Lib.hid (few_any w v l h 30 (by decide))
  rw [hf] at HF
  generalize l.length = n at hv
  subst hv
  clear hf h
  go_enter Try.func6, Try.ntmps6
  go_wp2_with fail
  refine HF.out.mono ?_
  rintro e w1 ⟨rfl, rfl⟩
  go_wp2_with fail
  refine (known_any _).mono ?_
  rintro e w4 ⟨rfl, hb4⟩
  go_wp2_with fail
  go_ret
  exact ⟨rfl, hb4⟩
theorem walk (w : World) (v : Value) (l : List ActA) (h : ActsAt w v l) (id : Int) (hid : I64 id) : Calls Try.prog 6 #[v, .int .i64 id] w fun e w' => e = .returned (.bool true) ∧ Below w.heap.size w w' := by
  cases hf : fewA l 30
  · exact walk_no w v l h id hid hf
  · exact walk_ok w v l h id hid hf

set_option maxRecDepth 100000 in
theorem lifted (os : Os) (started : os.Started) (H : Type) (enc : TypeId × Value → H) :
    ReturnsInHanded {} Try.checked os 6 .any (Rows.networkFindsSpec.pre6 enc Try.prog Try.f6 Rows.networkFindsRow.domain false) (Rows.networkFindsSpec.post enc Try.prog Try.f6 false true false false) := by
  refine returnsInHanded_of_change (C := Try.checked) own started (by kernel_rfl) Try.func6
    (ChangeSpec.witness6 (enc := enc) (C := Try.checked) false ⟨#[], #[.slice none 0 0, .int .i64 0], []⟩ 8 (by kernel_rfl) (by kernel_rfl) (by kernel_rfl) (by kernel_rfl)) ?_
  intro W base args ds gs before hval0 hW hcnd _
  have hval : ∀ (j : Nat) t v, Try.f6.params[j]? = some t → args[j]? = some v → Value.okWide Try.prog W .any base t v := hval0
  have hW' := hW
  obtain ⟨p, q, hA0, hV, rfl, hfz, hnd⟩ := hW
  have hA : DataW.TrodAll enc Try.prog W 0 (fun _ => true) true Try.f6.params.toList args.toList ds p := hA0
  rw [Try.params6] at hA hval
  obtain ⟨v0, vs0, d0, ds0, p0, q0, hargs, rfl, rfl, h0, r0⟩ := trodAll_cons hA
  obtain ⟨v1, vs1, d1, ds1, p1, q1, rfl, rfl, rfl, h1, r1⟩ := trodAll_cons r0
  obtain ⟨rfl, rfl, rfl⟩ := trodAll_nil r1
  obtain rfl : args = #[v0, v1] := by cases args; simp_all
  obtain ⟨sa, len, cap, rfl⟩ := okWide_slice Try.underlying39 (hval 0 39 v0 rfl rfl)
  obtain ⟨a1, rfl, rfl, rfl, w1⟩ := open_int Try.underlying3 (hval 1 3 v1 rfl rfl) h1
  obtain ⟨l, hl⟩ := acts_open h0 rfl
  simp [Lit.wf] at w1
  refine (walk W _ l hl a1 w1).mono fun e W' ⟨he, hb⟩ => ?_
  subst he
  exact ⟨_, rfl, law_post rfl (by kernel_rfl) (by rw [Try.params6]; intro t ht; simp at ht; rcases ht with rfl | rfl <;> exact ⟨by kernel_rfl, of_decide_eq_true (by kernel_rfl)⟩) rfl rfl rfl hW' hb⟩

set_option maxRecDepth 100000 in
theorem over : Rows.networkFindsRow.holds Try.pinned (OpenSpec.ofChange Rows.networkFindsSpec) :=
  OpenClaim.holds_of_wide 6 Try.f6 rfl rfl rfl rfl rfl rfl rfl ⟨rfl, rfl, rfl, rfl, rfl⟩ rfl rfl rfl rfl rfl (by kernel_rfl) Try.func6 (by kernel_rfl)
    (of_decide_eq_true (by kernel_rfl)) (by unfold Func.isWrapper; first | (rw [if_pos (by decide +kernel)]; kernel_rfl) | (rw [if_neg (by decide +kernel)]; exact ⟨rfl, rfl⟩))
    (fun os started H enc _ => lifted os started H enc)

/-- THE STATEMENT -/
theorem proved : Rows.NetworkFindsSaid :=
  over
#print axioms proved
end Go.Proofs.Ytiindnmelegkgaa.networkFinds
