/- NetworkLoops: the walk. -/
import Derived.Test.YtiindnmelegkgaaD5
import Derived.Test.YtiindnmelegkgaaC4
import Derived.Test.YtiindnmelegkgaaL0
namespace Go.Proofs.Ytiindnmelegkgaa.networkLoops
open Go.ChangeShapes Go.WideShapes Go.ChangeAt Go.RowKit Go.Shelf
set_option linter.unusedSimpArgs false
set_option linter.unusedVariables false
attribute [local go_sem] Oper.semAt_some

theorem _root_.Go.Proofs.Ytiindnmelegkgaa.FlSeq.stays {w w' : World} {base : Nat} {fl : List AFl} {B : Nat} {v : Value} {L : List Fl} (h : FlSeq w base fl B v L) (he : ∀ b, base ≤ b → b < w.heap.size → w'.heap[b]? = w.heap[b]?) : FlSeq w' base fl B v L :=
  ⟨(he _ h.hB (Array.getElem?_eq_some_iff.1 h.box).1).trans h.box, h.hB, row_stays h.row fun b h' => he b (h.far b h') (h.row.lt b h').2, h.far, h.abs, fun x hx => row_stays (h.own x hx) fun b h' => he b (h.ofar x hx b h') ((h.own x hx).lt b h').2, h.ofar⟩
theorem _root_.Go.Proofs.Ytiindnmelegkgaa.HiSeq.stays {w w' : World} {base : Nat} {l : List Pk} {B : Nat} {v : Value} (h : HiSeq w base l B v) (he : ∀ b, base ≤ b → b < w.heap.size → w'.heap[b]? = w.heap[b]?) : HiSeq w' base l B v :=
  ⟨(he _ h.hB (Array.getElem?_eq_some_iff.1 h.box).1).trans h.box, h.hB, row_stays h.row fun b h' => he b (h.far b h') (h.row.lt b h').2, h.far⟩

set_option maxHeartbeats 8000000 in
set_option maxRecDepth 100000 in
theorem walk_ok (w : World) (v v2 : Value) (l m : List ActA) (h : ActsAt w v l) (h2 : ActsAt w v2 m) (many : Int) (hmany : I64 many) (hf : fewA l 20 = true) (hf2 : fewA m 20 = true) : Calls Try.prog 7 #[v, v2, .int .i64 many] w fun e w' => e = .returned (.bool true) ∧ Below w.heap.size w w' := by
  obtain ⟨sa, sc, hv⟩ := h.at_.1
  obtain ⟨sb, sd, hv2⟩ := h2.at_.1
  obtain ⟨n, hn⟩ : ∃ n, l.length = n := ⟨_, rfl⟩
  obtain ⟨n', hn'⟩ : ∃ n, m.length = n := ⟨_, rfl⟩
  rw [hn] at hv
  rw [hn'] at hv2
  have hn20 : n ≤ 20 := by simp only [fewA, Bool.and_eq_true, decide_eq_true_eq] at hf; omega
  have hm20 : n' ≤ 20 := by simp only [fewA, Bool.and_eq_true, decide_eq_true_eq] at hf2; omega
  have hfw : ∀ x ∈ l, x.few = true := by simp only [fewA, Bool.and_eq_true, List.all_eq_true] at hf; exact hf.2
  have hfw2 : ∀ x ∈ m, x.few = true := by simp only [fewA, Bool.and_eq_true, List.all_eq_true] at hf2; exact hf2.2
  obtain ⟨wB, hwB⟩ : ∃ wB, wB = (w.alloc (.cells #[.int .i64 many] 3)).alloc (.cells #[.bool false] 4) := ⟨_, rfl⟩
  have bB : Below w.heap.size w wB := by rw [hwB]; exact ((Below.refl _ _).alloc (Nat.le_refl _) _).alloc (by simp) _
  have zB : wB.heap.size = w.heap.size + 2 := by rw [hwB]; simp
  have xB1 : wB.heap[w.heap.size]? = some (.cells #[.int .i64 many] 3 (0, 0)) := by rw [hwB, old_at (by simp)]; exact new_at rfl
  have xB2 : wB.heap[w.heap.size + 1]? = some (.cells #[.bool false] 4 (0, 0)) := by rw [hwB]; exact new_at (by simp)
  have hA := h.below bB
  have hA2 := h2.below bB
  have HF := Lib.hid (few_any wB v l hA 20 (by decide))
  rw [hf] at HF
  have HF2 := Lib.hid (few_any wB v2 m hA2 20 (by decide))
  rw [hf2] at HF2
  have HFW := Lib.hid hfw
  have HFW2 := Lib.hid hfw2
  have HA := Lib.hid hA
  have HA2 := Lib.hid hA2
  have HN := Lib.hid hn
  have HN2 := Lib.hid hn'
  have HBB := Lib.hid bB
  have HZB := Lib.hid zB
  have HXB1 := Lib.hid xB1
  have HXB2 := Lib.hid xB2
  have HWB := Lib.hid hwB
  have HMANY := Lib.hid hmany
  have ST : Hid (LSt (hold0 wB) wB (wB.heap.size + 1) 0 [] (.pointer (some ⟨wB.heap.size, 0, none⟩)) ((wB.alloc (.cells #[.slice none 0 0, .slice none 0 0, .slice none 0 0, .map none, .int .i64 0] 29)).alloc (.cells #[.slice none 0 0, .slice none 0 0, .slice none 0 0, .slice none 0 0] 64))) := Lib.hid (by
    have := (PS.new wB).box (.cells #[.slice none 0 0, .slice none 0 0, .slice none 0 0, .slice none 0 0] 64)
    simp only [World.size_alloc] at this
    exact ⟨_, _, RN0, rfl, RN0_pair, this⟩)
  subst hv
  subst hv2
  clear hf hfw h hn hf2 hfw2 h2 hn' hA hA2 bB zB xB1 xB2 hmany
  have qa := eqlFn53
  have qb := eqlFn
  have qc := eqlFn43
  refine (callsIn_wide (n := 3)).1 ?_
  refine callsIn_of_wp_marks Try.func7 rfl trivial ?_ rfl
  simp only [Try.ntmps7, List.size_toArray, List.length_cons, List.length_nil, Nat.reduceAdd, Nat.reduceSub, Array.replicate_succ, Array.replicate_zero, List.push_toArray, List.append_toArray, List.nil_append, List.cons_append]
  refine wpIn_wide.2 ?_
  go_wp2_with fail
  rw [← hwB]
  clear hwB
  refine HF.out.mono ?_
  rintro e w1 ⟨rfl, rfl⟩
  go_wp2_with fail
  refine HF2.out.mono ?_
  rintro e w1 ⟨rfl, rfl⟩
  go_wp2_with fail

  go_loopw [7, 9, 10] (fun nv fv i wr => ∃ k : Nat, fv = .bool true ∧ i = .int .i64 k ∧ k ≤ n ∧ LSt (hold0 wB) wB (wB.heap.size + 1) (2 * k) [] nv wr) (fun _ _ i _ => n - (intOf i).toNat)
  case atStart => exact ⟨0, rfl, rfl, Nat.zero_le _, ST.out⟩
  case round =>
    obtain ⟨k, rfl, rfl, hk, p, A, RN, rfl, hP, hS⟩ := hrel
    by_cases hlt : k < n
    · obtain ⟨b, off, c, hv'⟩ := HA.out.form (by rw [HN.out]; omega)
      rw [HN.out] at hv'
      simp only [Value.slice.injEq, true_and] at hv'
      obtain ⟨rfl, rfl⟩ := hv'
      obtain ⟨x, hx⟩ : ∃ x, l[k]? = some x := ⟨l[k]'(by rw [HN.out]; exact hlt), List.getElem?_eq_getElem _⟩
      have hxm := List.mem_of_getElem? hx
      have HAr := HA.out.below hS.lower
      have cc := HAr.cell hx
      obtain ⟨ba, bc, hbv⟩ := (HA.out.ok x hxm).sl
      obtain ⟨bn, hbn⟩ : ∃ bn, x.p.bs.length = bn := ⟨_, rfl⟩
      rw [hbn] at hbv
      have e0 := cc 0 (by decide)
      have e1 := cc 1 (by decide)
      have e2 := cc 2 (by decide)
      have e3 := cc 3 (by decide)
      have e4 := cc 4 (by decide)
      have e5 := cc 5 (by decide)
      have e6 := cc 6 (by decide)
      simp [ActA.cells, hbv] at e0 e1 e2 e3 e4 e5 e6
      obtain ⟨⟨a1, n1, k1, ha1⟩, ⟨a2, n2, k2, ha2⟩, ⟨a3, n3, k3, ha3⟩, ⟨a4, n4, k4, ha4⟩⟩ := hS.rok.forms
      have hy := hS.at_ (List.mem_cons_self ..)
      dsimp only at hy
      rw [ha1, ha2, ha3, ha4] at hy
      obtain ⟨r0, r1, r2, r3, -⟩ := cells4 hy
      have CL := Lib.hid (do_ok (hS.below (Below.refl _ _).drew) hP (by omega) x (HA.out.ok x hxm) (HFW.out x hxm))
      rw [show RN.val = .agg #[.slice a1 n1 k1, .slice a2 n2 k2, .slice a3 n3 k3, .slice a4 n4 k4] by unfold RNet.val; rw [ha1, ha2, ha3, ha4], show x.val = .agg #[.int .i64 x.what, .int .i64 x.id, .int .i64 x.off, .int .u8 x.m, .string x.p.frm, .string x.p.to, .slice ba bn bc] by unfold ActA.val; rw [hbv]] at CL
      have HS := Lib.hid hS
      clear cc hx hxm hbv hbn hS hP HAr hy
      have HH1 := Lib.hid ha1
      have HH2 := Lib.hid ha2
      have HH3 := Lib.hid ha3
      have HH4 := Lib.hid ha4
      clear ha1 ha2 ha3 ha4
      go_wp2_with fail
      refine wp_region_bar (by kernel_rfl) 14 (by rfl) ?_
      refine (show wpAny _ _ _ _ (6 + (7 + 1)) _ _ _ from ?_)
      have F2 : ∀ ww kk, kk < 1 → wsq [wr.drew] kk ww → (ww.cell? ⟨(wB.heap.size + 1), 0, none⟩ = some (.slice a1 n1 k1) ∧ ww.cell? ⟨(wB.heap.size + 1), 1, none⟩ = some (.slice a2 n2 k2) ∧ ww.cell? ⟨(wB.heap.size + 1), 2, none⟩ = some (.slice a3 n3 k3) ∧ ww.cell? ⟨(wB.heap.size + 1), 3, none⟩ = some (.slice a4 n4 k4)) ∧
          ww.cell? ⟨b, off + k * 7, none⟩ = some (.int .i64 x.what) ∧ ww.cell? ⟨b, off + k * 7 + 1, none⟩ = some (.int .i64 x.id) ∧ ww.cell? ⟨b, off + k * 7 + 2, none⟩ = some (.int .i64 x.off) ∧ ww.cell? ⟨b, off + k * 7 + 3, none⟩ = some (.int .u8 x.m) ∧ ww.cell? ⟨b, off + k * 7 + 4, none⟩ = some (.string x.p.frm) ∧ ww.cell? ⟨b, off + k * 7 + 5, none⟩ = some (.string x.p.to) ∧ ww.cell? ⟨b, off + k * 7 + 6, none⟩ = some (.slice ba bn bc) := fun ww kk hk hww => by
        have e := wsq_lt1 hk hww
        rw [e]
        exact ⟨⟨r0, r1, r2, r3⟩, e0, e1, e2, e3, e4, e5, e6⟩
      have H2 := Lib.hid F2
      clear F2 e0 e1 e2 e3 e4 e5 e6 r0 r1 r2 r3
      refine wpAny_ahead_chain (like_self _) (by rfl) [0, 1, 2, 3, 4, 5] 6 7 (wsq [wr.drew]) [] [(1, 1), (5, 1)] (by kernel_rfl) (by kernel_rfl) (by kernel_rfl) (by kernel_rfl) (by kernel_rfl) (by kernel_rfl) (by kernel_rfl) wsq_0 ?_
      (refine ord_pure rfl rfl ?_; apply Exists.intro; refine ⟨fun ww => ?_, ?_⟩; (focus (unfold calmAt calmUpon; go_simp; rfl)); (simp only [Act.put, List.setIfInBounds_toArray, List.set_cons_succ, List.set_cons_zero]))
      (refine ord_load rfl rfl 1 (by simp) ?_; apply Exists.intro; refine ⟨fun k ww hk hww => ?_, ?_⟩; (focus (have cc := H2.out ww k hk hww; unfold calmAt calmUpon; go_simp; try rfl)); (simp only [Act.put, List.setIfInBounds_toArray, List.set_cons_succ, List.set_cons_zero]))
      iterate 3 (refine ord_pure rfl rfl ?_; apply Exists.intro; refine ⟨fun ww => ?_, ?_⟩; (focus (unfold calmAt calmUpon; go_simp; rfl)); (simp only [Act.put, List.setIfInBounds_toArray, List.set_cons_succ, List.set_cons_zero]))
      (refine ord_load rfl rfl 1 (by simp) ?_; apply Exists.intro; refine ⟨fun k ww hk hww => ?_, ?_⟩; (focus (have cc := H2.out ww k hk hww; unfold calmAt calmUpon; go_simp; try rfl)); (simp only [Act.put, List.setIfInBounds_toArray, List.set_cons_succ, List.set_cons_zero]))
      refine ord_nil ?_
      intro ww hww
      obtain rfl : wr.drew = ww := by simpa [wsq] using hww
      refine wpOp_like (like_self _) rfl rfl ?_
      unfold Oper.wp
      go_simp
      refine CL.out.mono ?_
      rintro e W3 ⟨p', A', RN', rfl, hP3, hS3⟩
      obtain ⟨⟨q1a, q1n, q1c, u1⟩, ⟨q2a, q2n, q2c, u2⟩, ⟨q3a, q3n, q3c, u3⟩, ⟨q4a, q4n, q4c, u4⟩⟩ := hS3.rok.forms
      have hv : RN'.val = .agg #[.slice q1a q1n q1c, .slice q2a q2n q2c, .slice q3a q3n q3c, .slice q4a q4n q4c] := by unfold RNet.val; rw [u1, u2, u3, u4]
      have hy := hS3.at_ (List.mem_cons_self ..)
      dsimp only at hy
      rw [HH1.out, HH2.out, HH3.out, HH4.out] at hy
      obtain ⟨W4, hW4⟩ : ∃ W4, W4 = ((((W3.setCell ⟨(wB.heap.size + 1), 0, none⟩ (.slice q1a q1n q1c)).setCell ⟨(wB.heap.size + 1), 1, none⟩ (.slice q2a q2n q2c)).setCell ⟨(wB.heap.size + 1), 2, none⟩ (.slice q3a q3n q3c)).setCell ⟨(wB.heap.size + 1), 3, none⟩ (.slice q4a q4n q4c)) := ⟨_, rfl⟩
      have hS4 : LSt (hold0 wB) wB (wB.heap.size + 1) (2 * (k + 1)) [] (.pointer (some ⟨p', 0, none⟩)) W4 := by
        refine ⟨p', A', RN', rfl, hP3, ?_⟩
        rw [hW4, ← u1, ← u2, ← u3, ← u4]
        exact hS3.put4 (by have := HZB.out; omega) (by simp) _ _ _ _
      have HW4 := Lib.hid hW4
      have HS4 := Lib.hid hS4
      have HY := Lib.hid hy
      rw [hv]
      clear hW4 hS4 hS3 hP3 u1 u2 u3 u4 hv hy
      refine wpAny_behind_chain (like_self _) (by rfl) [0, 1, 2, 3, 4, 5, 6] [7, 8, 9, 10, 11, 12, 13] (wsq [W3, W4]) [12] [] (by kernel_rfl) (by kernel_rfl) (by kernel_rfl) (by kernel_rfl) (by kernel_rfl) (by kernel_rfl) (by kernel_rfl) (by kernel_rfl) (by kernel_rfl) wsq_0 ?_
      iterate 5 (refine ord_pure rfl rfl ?_; apply Exists.intro; refine ⟨fun ww => ?_, ?_⟩; (focus (unfold calmAt calmUpon; go_simp; rfl)); (simp only [Act.put, List.setIfInBounds_toArray, List.set_cons_succ, List.set_cons_zero]))
      refine ord_write (by kernel_rfl) rfl 0 rfl (by rfl) ?_
      apply Exists.intro
      refine ⟨fun ww hww => ?_, ?_⟩
      focus
        obtain rfl : W3 = ww := by simpa [wsq] using hww
        obtain ⟨t0, t1, t2, t3, fo⟩ := cells4 HY.out
        unfold calmAt calmUpon
        go_simp
        refine ⟨rfl, ?_⟩
        rw [HW4.out]
        rfl
      (simp only [Act.put, List.setIfInBounds_toArray, List.set_cons_succ, List.set_cons_zero])
      (refine ord_pure rfl rfl ?_; apply Exists.intro; refine ⟨fun ww => ?_, ?_⟩; (focus (unfold calmAt calmUpon; go_simp; rfl)); (simp only [Act.put, List.setIfInBounds_toArray, List.set_cons_succ, List.set_cons_zero]))
      refine ord_nil ?_
      intro ww hww
      obtain rfl : W4 = ww := by simpa [wsq] using hww
      clear hww
      go_wp2_with fail
      go_roundw
      case rel => exact ⟨k + 1, rfl, by simp, by omega, HS4.out⟩
      case measure => simp [intOf]; omega
    · obtain rfl : k = n := by omega
      have T := hP.cons.tiny (by omega)
      have HSM := Lib.hid (hP.rsmall (by omega))
      have HLOW := Lib.hid hS.lower
      have hRK := hS.rok
      have hsrc := hP.cons.src
      obtain ⟨⟨a1, n1, k1, ha1⟩, ⟨a2, n2, k2, ha2⟩, ⟨a3, n3, k3, ha3⟩, ⟨a4, n4, k4, ha4⟩⟩ := hRK.forms
      have HVAL : Hid (RN.val = .agg #[.slice a1 n1 k1, .slice a2 n2 k2, .slice a3 n3 k3, .slice a4 n4 k4]) := Lib.hid (by unfold RNet.val; rw [ha1, ha2, ha3, ha4])
      have hbox := hS.at_ (List.mem_cons_self ..)
      dsimp only at hbox
      rw [ha1, ha2, ha3, ha4] at hbox
      have HRB : Hid (∀ b, RB RN b → b < wr.heap.size) := Lib.hid fun b hb => hRK.lt hb
      have HRK := Lib.hid hRK
      have HPP := Lib.hid hP
      have HA1 := Lib.hid ha1
      have HA2r := Lib.hid ha2
      have HA3 := Lib.hid ha3
      have HA4 := Lib.hid ha4
      obtain ⟨ρ, N, R, rfl, hold⟩ := hS.hold
      have HT := Lib.hid T
      have HFLI := Lib.hid (flight_any R T.small)
      have HR := Lib.hid R
      have HOLD := Lib.hid hold
      have HBOX := Lib.hid hbox
      clear T hS hP hRK ha1 ha2 ha3 ha4 hsrc R hold hbox ST
      go_wp2_with fail
      refine HFLI.out.mono ?_
      rintro e w1 ⟨⟨B1, v1, L1, rfl, hF1⟩, hb1⟩
      have HF1 := Lib.hid hF1
      have HB1 := Lib.hid hb1
      have HHI := Lib.hid (history_any (HR.out.below hb1) HT.out.small)
      clear hF1 hb1
      go_wp2_with fail
      refine HHI.out.mono ?_
      rintro e w2 ⟨⟨B2, v2, rfl, hF2⟩, hb2⟩
      have HFH := Lib.hid hF2
      have HB2 := Lib.hid hb2
      have HEV := Lib.hid (events_any ((HR.out.below HB1.out).below hb2) HT.out.small)
      clear hF2 hb2
      go_wp2_with fail
      refine HEV.out.mono ?_
      rintro e w3 ⟨⟨B3, v3, rfl, hE0, hE1, hE2, hE3⟩, hb3⟩
      have B13 : Hid (Below wr.heap.size wr w3) := Lib.hid (HB1.out.trans ((HB2.out.trans (hb3.mono HB2.out.size)).mono HB1.out.size))
      have z12 := HB1.out.size
      have z23 := HB2.out.size
      have z34 := hb3.size
      have zlow := HLOW.out.size
      obtain ⟨G, hG⟩ : ∃ G : Nat → Prop, G = fun b => (wr.heap.size ≤ b ∧ b < w3.heap.size) ∨ b < wB.heap.size ∨ RB RN b ∨ b = wB.heap.size + 1 := ⟨_, rfl⟩
      have hboxl := (Array.getElem?_eq_some_iff.1 HBOX.out).1
      have P3 : PS ⟨N.hist, w3, G⟩ wB p N.abs RN [] w3 := HOLD.out w3 G B13.out (fun b hb => by
        rw [hG] at hb
        rcases hb with h | h | h | h
        · exact ⟨h.2, .inl h.1⟩
        · exact ⟨by omega, .inr (.inl h)⟩
        · exact ⟨by have := HRB.out b h; omega, .inr (.inr (.inl h))⟩
        · exact ⟨by omega, .inr (.inr (.inr ⟨_, List.mem_cons_self .., h.symm⟩))⟩) [] (by simp)
      have P4 := P3.box (.cells #[RN.va, RN.vh, RN.ve, RN.vb] 64)
      have ST2 : Hid (LSt ⟨N.hist, w3, G⟩ wB w3.heap.size (2 * k + 2 * 0) [] (.pointer (some ⟨p, 0, none⟩)) (w3.alloc (.cells #[.slice a1 n1 k1, .slice a2 n2 k2, .slice a3 n3 k3, .slice a4 n4 k4] 64))) := Lib.hid (by
        rw [HA1.out, HA2r.out, HA3.out, HA4.out] at P4
        refine ⟨p, _, RN, rfl, HPP.out, ?_⟩
        rw [HA1.out, HA2r.out, HA3.out, HA4.out]
        exact P4)
      have HG := Lib.hid hG
      have x3 : w3.heap[wB.heap.size + 1]? = some (.cells #[.slice a1 n1 k1, .slice a2 n2 k2, .slice a3 n3 k3, .slice a4 n4 k4] 64 (0, 0)) := (B13.out.block _ hboxl).trans HBOX.out
      have HX3 := Lib.hid x3
      obtain ⟨m0, m1, m2, m3, -⟩ := cells4 x3
      have HE0 := Lib.hid hE0
      have HE1 := Lib.hid hE1
      have HE2 := Lib.hid hE2
      have HE3 := Lib.hid hE3
      have HB3 := Lib.hid hb3
      have HW3 : Hid (wB.heap.size + 2 ≤ w3.heap.size) := Lib.hid (by omega)
      clear hb3 hE0 hE1 hE2 hE3 hG P3 P4 x3 hboxl z12 z23 z34 zlow HFLI HHI HEV
      go_wp2_with fail
      obtain ⟨wl, hwl⟩ : ∃ wl, wl = wr := ⟨_, rfl⟩
      subst hwl

      go_loopw [7, 9, 15] (fun nv fv i wr => ∃ j : Nat, fv = .bool true ∧ i = .int .i64 j ∧ j ≤ n' ∧ LSt ⟨N.hist, w3, G⟩ wB w3.heap.size (2 * k + 2 * j) [] nv wr) (fun _ _ i _ => n' - (intOf i).toNat)
      case atStart => exact ⟨0, rfl, rfl, Nat.zero_le _, ST2.out⟩
      case round =>
        obtain ⟨j, rfl, rfl, hk, pq, Aq, RNq, rfl, hP, hS⟩ := hrel
        by_cases hlt : j < n'
        · obtain ⟨b, off, c, hv'⟩ := HA2.out.form (by rw [HN2.out]; omega)
          rw [HN2.out] at hv'
          simp only [Value.slice.injEq, true_and] at hv'
          obtain ⟨rfl, rfl⟩ := hv'
          obtain ⟨x, hx⟩ : ∃ x, m[j]? = some x := ⟨m[j]'(by rw [HN2.out]; exact hlt), List.getElem?_eq_getElem _⟩
          have hxm := List.mem_of_getElem? hx
          have HAr := HA2.out.below hS.lower
          have cc := HAr.cell hx
          obtain ⟨ba, bc, hbv⟩ := (HA2.out.ok x hxm).sl
          obtain ⟨bn, hbn⟩ : ∃ bn, x.p.bs.length = bn := ⟨_, rfl⟩
          rw [hbn] at hbv
          have e0 := cc 0 (by decide)
          have e1 := cc 1 (by decide)
          have e2 := cc 2 (by decide)
          have e3 := cc 3 (by decide)
          have e4 := cc 4 (by decide)
          have e5 := cc 5 (by decide)
          have e6 := cc 6 (by decide)
          simp [ActA.cells, hbv] at e0 e1 e2 e3 e4 e5 e6
          obtain ⟨⟨a1, n1, k1, ha1⟩, ⟨a2, n2, k2, ha2⟩, ⟨a3, n3, k3, ha3⟩, ⟨a4, n4, k4, ha4⟩⟩ := hS.rok.forms
          have hy := hS.at_ (List.mem_cons_self ..)
          dsimp only at hy
          rw [ha1, ha2, ha3, ha4] at hy
          obtain ⟨r0, r1, r2, r3, -⟩ := cells4 hy
          have CL := Lib.hid (do_ok (hS.below (Below.refl _ _).drew) hP (by omega) x (HA2.out.ok x hxm) (HFW2.out x hxm))
          rw [show RNq.val = .agg #[.slice a1 n1 k1, .slice a2 n2 k2, .slice a3 n3 k3, .slice a4 n4 k4] by unfold RNet.val; rw [ha1, ha2, ha3, ha4], show x.val = .agg #[.int .i64 x.what, .int .i64 x.id, .int .i64 x.off, .int .u8 x.m, .string x.p.frm, .string x.p.to, .slice ba bn bc] by unfold ActA.val; rw [hbv]] at CL
          have HS := Lib.hid hS
          clear cc hx hxm hbv hbn hS hP HAr hy
          have HH1 := Lib.hid ha1
          have HH2 := Lib.hid ha2
          have HH3 := Lib.hid ha3
          have HH4 := Lib.hid ha4
          clear ha1 ha2 ha3 ha4
          go_wp2_with fail
          refine wp_region_bar (by kernel_rfl) 14 (by rfl) ?_
          refine (show wpAny _ _ _ _ (6 + (7 + 1)) _ _ _ from ?_)
          have F2 : ∀ ww kk, kk < 1 → wsq [wr.drew] kk ww → (ww.cell? ⟨w3.heap.size, 0, none⟩ = some (.slice a1 n1 k1) ∧ ww.cell? ⟨w3.heap.size, 1, none⟩ = some (.slice a2 n2 k2) ∧ ww.cell? ⟨w3.heap.size, 2, none⟩ = some (.slice a3 n3 k3) ∧ ww.cell? ⟨w3.heap.size, 3, none⟩ = some (.slice a4 n4 k4)) ∧
              ww.cell? ⟨b, off + j * 7, none⟩ = some (.int .i64 x.what) ∧ ww.cell? ⟨b, off + j * 7 + 1, none⟩ = some (.int .i64 x.id) ∧ ww.cell? ⟨b, off + j * 7 + 2, none⟩ = some (.int .i64 x.off) ∧ ww.cell? ⟨b, off + j * 7 + 3, none⟩ = some (.int .u8 x.m) ∧ ww.cell? ⟨b, off + j * 7 + 4, none⟩ = some (.string x.p.frm) ∧ ww.cell? ⟨b, off + j * 7 + 5, none⟩ = some (.string x.p.to) ∧ ww.cell? ⟨b, off + j * 7 + 6, none⟩ = some (.slice ba bn bc) := fun ww kk hk hww => by
            have e := wsq_lt1 hk hww
            rw [e]
            exact ⟨⟨r0, r1, r2, r3⟩, e0, e1, e2, e3, e4, e5, e6⟩
          have H2 := Lib.hid F2
          clear F2 e0 e1 e2 e3 e4 e5 e6 r0 r1 r2 r3
          refine wpAny_ahead_chain (like_self _) (by rfl) [0, 1, 2, 3, 4, 5] 6 7 (wsq [wr.drew]) [] [(1, 1), (5, 1)] (by kernel_rfl) (by kernel_rfl) (by kernel_rfl) (by kernel_rfl) (by kernel_rfl) (by kernel_rfl) (by kernel_rfl) wsq_0 ?_
          (refine ord_pure rfl rfl ?_; apply Exists.intro; refine ⟨fun ww => ?_, ?_⟩; (focus (unfold calmAt calmUpon; go_simp; rfl)); (simp only [Act.put, List.setIfInBounds_toArray, List.set_cons_succ, List.set_cons_zero]))
          (refine ord_load rfl rfl 1 (by simp) ?_; apply Exists.intro; refine ⟨fun k ww hk hww => ?_, ?_⟩; (focus (have cc := H2.out ww k hk hww; unfold calmAt calmUpon; go_simp; try rfl)); (simp only [Act.put, List.setIfInBounds_toArray, List.set_cons_succ, List.set_cons_zero]))
          iterate 3 (refine ord_pure rfl rfl ?_; apply Exists.intro; refine ⟨fun ww => ?_, ?_⟩; (focus (unfold calmAt calmUpon; go_simp; rfl)); (simp only [Act.put, List.setIfInBounds_toArray, List.set_cons_succ, List.set_cons_zero]))
          (refine ord_load rfl rfl 1 (by simp) ?_; apply Exists.intro; refine ⟨fun k ww hk hww => ?_, ?_⟩; (focus (have cc := H2.out ww k hk hww; unfold calmAt calmUpon; go_simp; try rfl)); (simp only [Act.put, List.setIfInBounds_toArray, List.set_cons_succ, List.set_cons_zero]))
          refine ord_nil ?_
          intro ww hww
          obtain rfl : wr.drew = ww := by simpa [wsq] using hww
          refine wpOp_like (like_self _) rfl rfl ?_
          unfold Oper.wp
          go_simp
          refine CL.out.mono ?_
          rintro e W3 ⟨p', A', RN', rfl, hP3, hS3⟩
          obtain ⟨⟨q1a, q1n, q1c, u1⟩, ⟨q2a, q2n, q2c, u2⟩, ⟨q3a, q3n, q3c, u3⟩, ⟨q4a, q4n, q4c, u4⟩⟩ := hS3.rok.forms
          have hv : RN'.val = .agg #[.slice q1a q1n q1c, .slice q2a q2n q2c, .slice q3a q3n q3c, .slice q4a q4n q4c] := by unfold RNet.val; rw [u1, u2, u3, u4]
          have hy := hS3.at_ (List.mem_cons_self ..)
          dsimp only at hy
          rw [HH1.out, HH2.out, HH3.out, HH4.out] at hy
          obtain ⟨W4, hW4⟩ : ∃ W4, W4 = ((((W3.setCell ⟨w3.heap.size, 0, none⟩ (.slice q1a q1n q1c)).setCell ⟨w3.heap.size, 1, none⟩ (.slice q2a q2n q2c)).setCell ⟨w3.heap.size, 2, none⟩ (.slice q3a q3n q3c)).setCell ⟨w3.heap.size, 3, none⟩ (.slice q4a q4n q4c)) := ⟨_, rfl⟩
          have hS4 : LSt ⟨N.hist, w3, G⟩ wB w3.heap.size (2 * k + 2 * (j + 1)) [] (.pointer (some ⟨p', 0, none⟩)) W4 := by
            refine ⟨p', A', RN', rfl, hP3, ?_⟩
            rw [hW4, ← u1, ← u2, ← u3, ← u4]
            exact hS3.put4 (by have := HW3.out; omega) (by simp) _ _ _ _
          have HW4 := Lib.hid hW4
          have HS4 := Lib.hid hS4
          have HY := Lib.hid hy
          rw [hv]
          clear hW4 hS4 hS3 hP3 u1 u2 u3 u4 hv hy
          refine wpAny_behind_chain (like_self _) (by rfl) [0, 1, 2, 3, 4, 5, 6] [7, 8, 9, 10, 11, 12, 13] (wsq [W3, W4]) [12] [] (by kernel_rfl) (by kernel_rfl) (by kernel_rfl) (by kernel_rfl) (by kernel_rfl) (by kernel_rfl) (by kernel_rfl) (by kernel_rfl) (by kernel_rfl) wsq_0 ?_
          iterate 5 (refine ord_pure rfl rfl ?_; apply Exists.intro; refine ⟨fun ww => ?_, ?_⟩; (focus (unfold calmAt calmUpon; go_simp; rfl)); (simp only [Act.put, List.setIfInBounds_toArray, List.set_cons_succ, List.set_cons_zero]))
          refine ord_write (by kernel_rfl) rfl 0 rfl (by rfl) ?_
          apply Exists.intro
          refine ⟨fun ww hww => ?_, ?_⟩
          focus
            obtain rfl : W3 = ww := by simpa [wsq] using hww
            obtain ⟨t0, t1, t2, t3, fo⟩ := cells4 HY.out
            unfold calmAt calmUpon
            go_simp
            refine ⟨rfl, ?_⟩
            rw [HW4.out]
            rfl
          (simp only [Act.put, List.setIfInBounds_toArray, List.set_cons_succ, List.set_cons_zero])
          (refine ord_pure rfl rfl ?_; apply Exists.intro; refine ⟨fun ww => ?_, ?_⟩; (focus (unfold calmAt calmUpon; go_simp; rfl)); (simp only [Act.put, List.setIfInBounds_toArray, List.set_cons_succ, List.set_cons_zero]))
          refine ord_nil ?_
          intro ww hww
          obtain rfl : W4 = ww := by simpa [wsq] using hww
          clear hww
          go_wp2_with fail
          go_roundw
          case rel => exact ⟨j + 1, rfl, by simp, by omega, HS4.out⟩
          case measure => simp [intOf]; omega
        · obtain rfl : j = n' := by omega
          have hheld := hS.held
          have hGE : ∀ b, G b → wr.heap[b]? = w3.heap[b]? := hheld.2
          have hHE : ∀ q ∈ N.hist, ownB wr q.bv q.bs ∧ validB q = true := hheld.1
          have gE : ∀ b, wl.heap.size ≤ b → b < w3.heap.size → wr.heap[b]? = w3.heap[b]? := fun b h1 h2 => hGE b (by rw [HG.out]; exact .inl ⟨h1, h2⟩)
          have z12 := HB1.out.size
          have z23 := HB2.out.size
          have z34 := HB3.out.size
          have hlow := hS.lower
          have FE : Hid (FlSeq wr wl.heap.size N.abs.fl B1 v1 L1) := Lib.hid ((HF1.out.below' (HB2.out.trans (HB3.out.mono HB2.out.size))).stays gE)
          have FEL : Hid (∀ x ∈ L1, x.p.bs.length ≤ 65536) := Lib.hid fun x hx => by
            have hm : x.abs ∈ N.fl.map Fl.abs := by rw [← HF1.out.abs]; exact List.mem_map_of_mem hx
            obtain ⟨y, hy, e⟩ := List.mem_map.1 hm
            have hv := HR.out.fok y hy
            simp only [validB, Bool.and_eq_true, decide_eq_true_eq] at hv
            have : y.p.bs = x.p.bs := congrArg AFl.bs e
            rw [← this]
            exact hv.2
          have HE_ : Hid (HiSeq wr wl.heap.size N.hist B2 v2) := Lib.hid (by
            have h := (HFH.out.below HB3.out).stays (fun b h1 h2 => gE b (by omega) h2)
            exact ⟨h.box, by have := h.hB; omega, h.row, fun b hb => by have := h.far b hb; omega⟩)
          have EE1 : Hid (wr.heap[B3]? = some (.cells #[v3] 26 (0, 0))) := Lib.hid ((gE B3 (by have := HE0.out; omega) (Array.getElem?_eq_some_iff.1 HE1.out).1).trans HE1.out)
          have EE2 : Hid (wr.ownsRow 0 59 3 v3 N.evs.length (N.evs.flatMap Ev.cells)) := Lib.hid (row_stays HE2.out fun b hb => gE b (by have := HE3.out b hb; omega) (HE2.out.lt b hb).2)
          have HH : Hid (∀ q ∈ N.hist, ownB wr q.bv q.bs ∧ q.bs.length ≤ 65536) := Lib.hid fun q hq => ⟨(hHE q hq).1, by
            have hv := (hHE q hq).2
            simp only [validB, Bool.and_eq_true, decide_eq_true_eq] at hv
            exact hv.2⟩
          have RE : Hid (ROk wr RN) := Lib.hid ((HRK.out.below B13.out).stays fun b hb => hGE b (by rw [HG.out]; exact .inr (.inr (.inl hb))))
          have XR : Hid (wr.heap[wB.heap.size + 1]? = some (.cells #[.slice a1 n1 k1, .slice a2 n2 k2, .slice a3 n3 k3, .slice a4 n4 k4] 64 (0, 0))) := Lib.hid ((hGE _ (by rw [HG.out]; exact .inr (.inr (.inr rfl)))).trans HX3.out)
          have XM : Hid (wr.heap[w.heap.size]? = some (.cells #[.int .i64 many] 3 (0, 0))) := Lib.hid ((hlow.block _ (by have := HZB.out; omega)).trans HXB1.out)
          have XQ : Hid (wr.heap[w.heap.size + 1]? = some (.cells #[.bool false] 4 (0, 0))) := Lib.hid ((hlow.block _ (by have := HZB.out; omega)).trans HXB2.out)
          have LOWE : Hid (Below w.heap.size w wr) := Lib.hid (HBB.out.trans (hlow.mono HBB.out.size))
          clear hS hP hheld hGE hHE gE z12 z23 z34 hlow m0 m1 m2 m3
          go_wp2_with fail
          refine wp_loop_rounds 3 ?_
          rw [rounds_succ]
          go_wp2_with fail
          have HVF : Hid (∀ k, SF v1 L1 k → k < wr.heap.size) := Lib.hid fun k hk => by
            rcases hk with hk | ⟨q, hq, hk⟩
            · exact (FE.out.row.lt k hk).2
            · exact ((FE.out.own q hq).lt k hk).2
          have HVH : Hid (∀ k, SH v2 N.hist k → k < wr.heap.size) := Lib.hid fun k hk => by
            rcases hk with hk | ⟨q, hq, hk⟩
            · exact (HE_.out.row.lt k hk).2
            · exact ((HH.out q hq).1.lt k hk).2
          have HVE : Hid (∀ k, v3.ownBlock = some k → k < wr.heap.size) := Lib.hid fun k hk => (EE2.out.lt k hk).2
          have HLN : Hid (L1.length ≤ 1000000 ∧ L1.length = N.abs.fl.length) := Lib.hid (by
            have h1 : L1.length = N.abs.fl.length := by rw [← FE.out.abs]; simp
            have := HT.out.fl
            exact ⟨by omega, h1⟩)
          obtain ⟨tb, htb⟩ : ∃ x, x = wr.heap.size := ⟨_, rfl⟩
          obtain ⟨ab, hab⟩ : ∃ x, x = tb + 1 := ⟨_, rfl⟩
          obtain ⟨bb, hbb⟩ : ∃ x, x = ab + 1 := ⟨_, rfl⟩
          obtain ⟨cb, hcb⟩ : ∃ x, x = bb + 1 := ⟨_, rfl⟩
          obtain ⟨W5, hW5⟩ : ∃ W5, W5 = ((((wr.alloc (.cells #[.int .i64 0] 3)).alloc (.cells #[.int .i64 0] 3)).alloc (.cells #[.int .i64 0] 3)).alloc (.cells #[.int .i64 0] 3)) := ⟨_, rfl⟩
          have KA : KInv wr [cnt ab 0, cnt bb 0, cnt cb 0, cnt tb 0] W5.heap.size W5 := by
            have h0 : KInv wr [] 0 wr := ⟨Below.refl _ _, by simp, Nat.zero_le _⟩
            have h := (((h0.box (.cells #[.int .i64 0] 3) tb htb).box (.cells #[.int .i64 0] 3) ab (by simp; omega)).box (.cells #[.int .i64 0] 3) bb (by simp; omega)).box (.cells #[.int .i64 0] 3) cb (by simp; omega)
            rw [hW5]
            exact (h.sub (by simp [cnt])).low (Nat.le_refl _)
          have hwt : wr.heap.size ≤ tb := by omega
          have hta : tb < ab := by omega
          have h_ab : ab < bb := by omega
          have h_bc : bb < cb := by omega
          have hc5 : cb < W5.heap.size := by rw [hW5]; simp; omega
          rw [← hW5, ← htb, ← hab, ← hbb, ← hcb]
          clear hW5 htb hab hbb hcb qa qb qc

          have FP0 := fl43_px 2 B1 W5.heap.size v1 L1 W5 HLN.out.1 (FE.out.below' KA.1).box (FE.out.below' KA.1).row (FE.out.below' KA.1).own FEL.out (Nat.le_refl _)
          rw [FE.out.abs] at FP0
          refine (wpIn_wide (n := 3)).1 ?_
          refine loop_px ?a1 False wr ab [cnt bb 0, cnt cb 0, cnt tb 0] rfl (enters_of Try.func43 (by kernel_rfl) rfl) FP0 (fun k hk => Nat.lt_of_lt_of_le (HVF.out k hk) KA.1.size) (fun ys hy => by
            have h1 := congrArg List.length hy
            rw [List.length_map] at h1
            rw [h1, HLN.out.2]
            simp [upF]) KA (pxF_own _ _ _) (fun pre x W W' h hb => ⟨h.1, row_stays h.2.1 fun b h' => hb.block b (h.2.1.lt b h').2, h.2.2⟩) (fun _ _ _ h => h.2.1) ?assign ?body ?hend
          case assign =>
            intro l x W K hbv hK

            have HK := Lib.hid hK
            clear hK hbv
            simp only [List.zip_toArray, List.zip_cons_cons, List.zip_nil_right, List.foldl_toArray, List.foldl_cons, List.foldl_nil, List.setIfInBounds_toArray, List.set_cons_succ, List.set_cons_zero]
            gi_wp2
            obtain ⟨D, hD⟩ : ∃ D, W.heap.size = D := ⟨_, rfl⟩
            have HK' := HK.out D hD
            rw [hD]
            exact HK'
          case body =>
            rintro l pre x D W hI hPx hbx hDW hlt
            rw [HLN.out.2] at hlt
            obtain ⟨y, xr, hym, hyid, hxr, hgone, hsrc, hgen, hsame, hlast, hsl, hxabs⟩ := fl_facts HPP.out hPx hlt
            have hbW := hI.1
            have hxn : x.1 < RN.all.length := (List.getElem?_eq_some_iff.1 hxr).1
            have hxm := List.mem_of_getElem? hxr
            have RW := RE.out.below hbW
            obtain ⟨g0, c0, hva⟩ := slice_box RW.a (by omega)
            have ra := RW.a
            rw [hva] at ra
            obtain ⟨n, hn⟩ : ∃ n, RN.all.length = n := ⟨_, rfl⟩
            rw [hn] at ra hva hxn
            have ea := HA1.out
            rw [hva] at ea
            simp only [Value.slice.injEq] at ea
            obtain ⟨ea1, ea2, ea3⟩ := ea
            have hgl : g0 < W.heap.size := (ra.lt g0 rfl).2
            obtain ⟨ra1, ra2, hrbv⟩ := ownB_slice (RW.ab xr hxm)
            have E0 := el_at (f := RFl.cells) (fun _ => rfl) ra hxr hn 0 (by decide)
            have E1 := el_at (f := RFl.cells) (fun _ => rfl) ra hxr hn 1 (by decide)
            have E2 := el_at (f := RFl.cells) (fun _ => rfl) ra hxr hn 2 (by decide)
            simp [RFl.cells, hrbv] at E0 E1 E2
            have hbl : xr.p.bs.length ≤ 65536 := by
              have := RW.aok xr hxm
              simp only [validB, Bool.and_eq_true, decide_eq_true_eq] at this
              exact this.2
            have hxl : x.2.bs.length ≤ 65536 := by rw [← hxabs]; exact hbl
            have HBV := Lib.hid (slice_parts hPx.2.1)
            have n1e : n1 = n := ea2.symm
            have a1e : a1 = some ⟨g0, 0, none⟩ := ea1.symm
            have NETC : Hid (∀ ww, Below W.heap.size W ww → ww.cell? ⟨wB.heap.size + 1, 0, none⟩ = some (.slice (some ⟨g0, 0, none⟩) n k1) ∧ ww.cell? ⟨wB.heap.size + 1, 1, none⟩ = some (.slice a2 n2 k2) ∧ ww.cell? ⟨wB.heap.size + 1, 2, none⟩ = some (.slice a3 n3 k3) ∧ ww.cell? ⟨wB.heap.size + 1, 3, none⟩ = some (.slice a4 n4 k4)) := Lib.hid fun ww hww => by
              have h := ((hbW.trans (hww.mono hbW.size)).block _ (Array.getElem?_eq_some_iff.1 XR.out).1).trans XR.out
              rw [n1e, a1e] at h
              obtain ⟨r0, r1, r2, r3, -⟩ := cells4 h
              exact ⟨r0, r1, r2, r3⟩
            have BOXC : Hid (∀ ww, Below W.heap.size W ww → ww.cell? ⟨D, 0, none⟩ = some (.string x.2.frm) ∧ ww.cell? ⟨D, 1, none⟩ = some (.string x.2.to) ∧ ww.cell? ⟨D, 2, none⟩ = some (.slice (slA x.2.bv) x.2.bs.length (slC x.2.bv))) := Lib.hid fun ww hww => by
              have h := (hww.block _ (Array.getElem?_eq_some_iff.1 hbx).1).trans hbx
              exact ⟨by rw [cell_of_row _ _ _ _ _ _ h]; rfl, by rw [cell_of_row _ _ _ _ _ _ h]; rfl, by rw [cell_of_row _ _ _ _ _ _ h, ← HBV.out]; rfl⟩
            have ROWC : Hid (∀ ww, Below W.heap.size W ww → ww.cell? ⟨g0, x.1 * 5, none⟩ = some (.string xr.p.frm) ∧ ww.cell? ⟨g0, x.1 * 5 + 1, none⟩ = some (.string xr.p.to) ∧ ww.cell? ⟨g0, x.1 * 5 + 2, none⟩ = some (.slice ra1 xr.p.bs.length ra2)) := Lib.hid fun ww hww =>
              ⟨bcells hww hgl E0, bcells hww hgl E1, bcells hww hgl E2⟩
            have FLIES : Hid (∀ ww, Below W.heap.size W ww → Calls Try.prog 26 #[.agg #[.slice (some ⟨g0, 0, none⟩) n k1, .slice a2 n2 k2, .slice a3 n3 k3, .slice a4 n4 k4], .int .i64 (x.1 : Nat)] ww fun e w' => e = .returned (.bool true) ∧ Below ww.heap.size ww w') := Lib.hid fun ww hww => by
              have h := flies_any RN ww (RW.below hww) HSM.out (x.1 : Nat)
              rw [HVAL.out, n1e, a1e, show fliesB RN.all (x.1 : Nat) = true by simp [fliesB, hxr, hgone]] at h
              exact h
            have SAME : Hid (∀ ww, Below W.heap.size W ww → Calls Try.prog 29 #[.agg #[.string x.2.frm, .string x.2.to, .slice (slA x.2.bv) x.2.bs.length (slC x.2.bv)], .agg #[.string xr.p.frm, .string xr.p.to, .slice ra1 xr.p.bs.length ra2]] ww fun e w' => e = .returned (.bool true) ∧ Below ww.heap.size ww w') := Lib.hid fun ww hww => by
              have h := rsame_any x.2 xr.p ww ((ownB_rd hPx.2.1 (by rw [← hxabs]; omega)).below hww) ((ownB_rd (RW.ab xr hxm) (by omega)).below hww)
              unfold Pk.val at h
              rw [hsame, hrbv, HBV.out] at h
              exact h
            have hx0 : (0 : Int) ≤ (x.1 : Int) := by omega
            have hxt : ((x.1 : Int)).toNat = x.1 := by omega
            have hnl2 : n ≤ 1000000 := by rw [← hn]; exact HSM.out.all
            have hpl : pre.length ≤ 1000000 := by have := HLN.out.1; have := HLN.out.2; omega
            have HKP : Hid (∀ W6, Below W.heap.size W W6 → KpS (SF v1 L1) W (W6.setCell ⟨ab, 0, none⟩ (.int .i64 ((pre.length : Int) + 1)))) := Lib.hid fun W6 hb => kps_put hb fun k hk => ⟨by have h1 := HVF.out k hk; have h2 := hbW.size; omega, by have h1 := HVF.out k hk; omega⟩
            have MANYC : Hid (∀ ww, Below W.heap.size W ww → ww.heap[w.heap.size]? = some (.cells #[.int .i64 many] 3 (0, 0))) := Lib.hid fun ww hww =>
              ((hI.1.trans (hww.mono hI.1.size)).block _ (Array.getElem?_eq_some_iff.1 XM.out).1).trans XM.out
            have HI := Lib.hid hI
            have hwm : w.heap.size < ab := by have := (Array.getElem?_eq_some_iff.1 XM.out).1; omega
            clear hI hPx hbx hDW hxabs hrbv E0 E1 E2 hn hva ea1 ea2 ea3 ra RW hxm hxr hsl hgone hgen hsame hsrc hyid hym hlast hbW hgl n1e a1e
            gi_wp2_with fail
            refine wpIn_region_grow (by kernel_rfl) (by kernel_rfl) (by kernel_rfl) ?_
            (refine grow_step rfl ?_; apply Exists.intro; refine ⟨fun ww hww => ?_, ?_⟩; (focus (have cc := NETC.out ww hww; unfold calmAt calmUpon; go_simp; first | rfl | exact ⟨rfl, hww⟩)); (simp only [Act.put, List.setIfInBounds_toArray, List.set_cons_succ, List.set_cons_zero]))
            (refine grow_step rfl ?_; apply Exists.intro; refine ⟨fun ww hww => ?_, ?_⟩; (focus (unfold calmAt calmUpon; go_simp; first | rfl | exact ⟨rfl, hww⟩)); (simp only [Act.put, List.setIfInBounds_toArray, List.set_cons_succ, List.set_cons_zero]))
            (refine grow_step rfl ?_; apply Exists.intro; refine ⟨fun ww hww => ?_, ?_⟩; (focus (unfold calmAt calmUpon; go_simp; refine (FLIES.out ww hww).mono ?_; rintro e w1 ⟨rfl, hb1⟩; exact ⟨rfl, hww.trans (hb1.mono hww.size)⟩)); (simp only [Act.put, List.setIfInBounds_toArray, List.set_cons_succ, List.set_cons_zero]))
            iterate 2 (refine grow_step rfl ?_; apply Exists.intro; refine ⟨fun ww hww => ?_, ?_⟩; (focus (unfold calmAt calmUpon; go_simp; first | rfl | exact ⟨rfl, hww⟩)); (simp only [Act.put, List.setIfInBounds_toArray, List.set_cons_succ, List.set_cons_zero]))
            (refine grow_step rfl ?_; apply Exists.intro; refine ⟨fun ww hww => ?_, ?_⟩; (focus (have cc := BOXC.out ww hww; unfold calmAt calmUpon; go_simp; first | rfl | exact ⟨rfl, hww⟩)); (simp only [Act.put, List.setIfInBounds_toArray, List.set_cons_succ, List.set_cons_zero]))
            (refine grow_step rfl ?_; apply Exists.intro; refine ⟨fun ww hww => ?_, ?_⟩; (focus (unfold calmAt calmUpon; go_simp; first | rfl | exact ⟨rfl, hww⟩)); (simp only [Act.put, List.setIfInBounds_toArray, List.set_cons_succ, List.set_cons_zero]))
            (refine grow_step rfl ?_; apply Exists.intro; refine ⟨fun ww hww => ?_, ?_⟩; (focus (have cc := NETC.out ww hww; unfold calmAt calmUpon; go_simp; first | rfl | exact ⟨rfl, hww⟩)); (simp only [Act.put, List.setIfInBounds_toArray, List.set_cons_succ, List.set_cons_zero]))
            iterate 3 (refine grow_step rfl ?_; apply Exists.intro; refine ⟨fun ww hww => ?_, ?_⟩; (focus (unfold calmAt calmUpon; go_simp; first | rfl | exact ⟨rfl, hww⟩)); (simp only [Act.put, List.setIfInBounds_toArray, List.set_cons_succ, List.set_cons_zero]))
            (refine grow_step rfl ?_; apply Exists.intro; refine ⟨fun ww hww => ?_, ?_⟩; (focus (have cc := ROWC.out ww hww; unfold calmAt calmUpon; go_simp; first | rfl | exact ⟨rfl, hww⟩)); (simp only [Act.put, List.setIfInBounds_toArray, List.set_cons_succ, List.set_cons_zero]))
            (refine grow_step rfl ?_; apply Exists.intro; refine ⟨fun ww hww => ?_, ?_⟩; (focus (unfold calmAt calmUpon; go_simp; refine (SAME.out ww hww).mono ?_; rintro e w1 ⟨rfl, hb1⟩; exact ⟨rfl, hww.trans (hb1.mono hww.size)⟩)); (simp only [Act.put, List.setIfInBounds_toArray, List.set_cons_succ, List.set_cons_zero]))
            iterate 2 (refine grow_step rfl ?_; apply Exists.intro; refine ⟨fun ww hww => ?_, ?_⟩; (focus (unfold calmAt calmUpon; go_simp; first | rfl | exact ⟨rfl, hww⟩)); (simp only [Act.put, List.setIfInBounds_toArray, List.set_cons_succ, List.set_cons_zero]))
            refine calm_nil ?_
            intro W6 b6
            have B6 := Lib.hid b6
            have K6 := Lib.hid (HI.out.below b6)
            have c6 := K6.out.cell (List.mem_cons_self ..)
            have f6 := K6.out.fz (List.mem_cons_self ..)
            have hp1 : (-9223372036854775808 : Int) ≤ (pre.length : Int) + 1 := by omega
            have hp2 : (pre.length : Int) + 1 ≤ 9223372036854775807 := by omega
            have K7 := Lib.hid (K6.out.put (by omega) (by simp [cnt, mrk]; omega) ((pre.length : Int) + 1))
            have c7 := K7.out.cell (List.mem_cons_self ..)
            have t7 : (W6.setCell ⟨ab, 0, none⟩ (.int .i64 ((pre.length : Int) + 1))).cell? ⟨tb, 0, none⟩ = some (.int .i64 0) := K7.out.cell (by simp [cnt, mrk])
            have m7 : (W6.setCell ⟨ab, 0, none⟩ (.int .i64 ((pre.length : Int) + 1))).cell? ⟨w.heap.size, 0, none⟩ = some (.int .i64 many) := by
              have h := (set_other (w := W6) (p := ⟨ab, 0, none⟩) (v := .int .i64 ((pre.length : Int) + 1)) (b := w.heap.size) (by show w.heap.size ≠ ab; omega)).trans (MANYC.out W6 B6.out)
              rw [cell_of_row _ _ _ _ _ _ h]; rfl
            clear b6
            by_cases hmm : many ≤ (pre.length : Int) + 1
            · have hg1 : decide ((pre.length : Int) + 1 ≥ many) = true := by simp; exact hmm
              have hg2 : decide (many ≤ (pre.length : Int) + 1) = true := by simp; exact hmm
              gi_wp2_with fail
              exact owe (id := 6) (full := False) (a := ⟨#[], []⟩) HI.out B6.out (by omega) (by omega) (by simp [cnt, mrk]; omega) (HKP.out W6 B6.out) (.inr ⟨rfl, fun h => h⟩)
            · have hg1 : decide ((pre.length : Int) + 1 ≥ many) = false := by simp; omega
              have hg2 : decide (many ≤ (pre.length : Int) + 1) = false := by simp; omega
              gi_wp2_with fail
              exact owe (id := 6) (full := False) (a := ⟨#[], []⟩) HI.out B6.out (by omega) (by omega) (by simp [cnt, mrk]; omega) (HKP.out W6 B6.out) (.inl rfl)

          case hend =>
            rintro D1_0 na0 Wa0 hD1_0 hfa0 KB
            have KC : KInv wr [cnt bb 0, cnt ab (na0 : Int), mrk D1_0, cnt cb 0, cnt tb 0] Wa0.heap.size Wa0 := (KB.sub (by simp [cnt, mrk])).low (Nat.le_refl _)
            have hDa0 : D1_0 < Wa0.heap.size := KC.lt (x := mrk D1_0) (by simp [cnt, mrk])
            have hWa0 : W5.heap.size ≤ Wa0.heap.size := KB.2.2
            clear KB
            dsimp only
            go_wp2_with fail

            have FP0h := hist53_px 2 B2 Wa0.heap.size v2 N.hist Wa0 (by have h := HT.out.hist; rw [abs_hist] at h; omega) (HE_.out.below KC.1).box (HE_.out.below KC.1).row (fun q hq => row_stays (HH.out q hq).1 fun b h' => KC.1.block b ((HH.out q hq).1.lt b h').2) (fun q hq => (HH.out q hq).2) (Nat.le_refl _)
            refine (wpIn_wide (n := 3)).1 ?_
            refine loop_px ?a2 False wr bb [cnt ab (na0 : Int), mrk D1_0, cnt cb 0, cnt tb 0] rfl (enters_of Try.func53 (by kernel_rfl) rfl) FP0h (fun k hk => Nat.lt_of_lt_of_le (HVH.out k hk) KC.1.size) (fun ys hy => by
              have h1 := congrArg List.length hy
              rw [List.length_map] at h1
              rw [h1]
              simp [upP]) KC (pxH_own _ _ _) (fun pre x W W' h hb => ⟨h.1, row_stays h.2.1 fun b h' => hb.block b (h.2.1.lt b h').2, h.2.2⟩) (fun _ _ _ h => h.2.1) ?assign ?body ?hend
            case assign =>
              intro l x W K hbv hK
              have HK := Lib.hid hK
              clear hK hbv
              simp only [List.zip_toArray, List.zip_cons_cons, List.zip_nil_right, List.foldl_toArray, List.foldl_cons, List.foldl_nil, List.setIfInBounds_toArray, List.set_cons_succ, List.set_cons_zero]
              gi_wp2
              obtain ⟨D, hD⟩ : ∃ D, W.heap.size = D := ⟨_, rfl⟩
              have HK' := HK.out D hD
              rw [hD]
              exact HK'
            case body =>
              rintro l pre x D W hI hPx hbx hDW hlt
              have hhl : N.abs.hist.length = N.hist.length := by rw [abs_hist]
              rw [← hhl] at hlt
              obtain ⟨qr, hqr, hx1, hsame, hqbs⟩ := hi_facts HPP.out (show PxH _ N.abs.hist pre x W from hPx) hlt
              have hbW := hI.1
              have hqm := List.mem_of_getElem? hqr
              have hqn : pre.length < RN.hist.length := (List.getElem?_eq_some_iff.1 hqr).1
              have RW := RE.out.below hbW
              obtain ⟨g0, c0, hvh⟩ := slice_box RW.h (by omega)
              have ea := HA2r.out
              rw [hvh] at ea
              simp only [Value.slice.injEq] at ea
              obtain ⟨ea1, ea2, ea3⟩ := ea
              have rh := RW.h
              rw [hvh] at rh
              have hgl : g0 < W.heap.size := (rh.lt g0 rfl).2
              obtain ⟨ra1, ra2, hrbv⟩ := ownB_slice (RW.hb qr hqm)
              have E0 := el_at (f := Pk.cells) (fun _ => rfl) rh hqr rfl 0 (by decide)
              have E1 := el_at (f := Pk.cells) (fun _ => rfl) rh hqr rfl 1 (by decide)
              have E2 := el_at (f := Pk.cells) (fun _ => rfl) rh hqr rfl 2 (by decide)
              simp [Pk.cells, hrbv] at E0 E1 E2
              have hbl : qr.bs.length ≤ 65536 := by
                have := RW.hok qr hqm
                simp only [validB, Bool.and_eq_true, decide_eq_true_eq] at this
                exact this.2
              have hxl : x.2.bs.length ≤ 65536 := by rw [← hqbs]; exact hbl
              have HBV := Lib.hid (slice_parts hPx.2.1)
              have a2e : a2 = some ⟨g0, 0, none⟩ := ea1.symm
              have hpn : pre.length < n2 := by rw [← ea2]; exact hqn
              have NETC : Hid (∀ ww, Below W.heap.size W ww → ww.cell? ⟨wB.heap.size + 1, 0, none⟩ = some (.slice a1 n1 k1) ∧ ww.cell? ⟨wB.heap.size + 1, 1, none⟩ = some (.slice (some ⟨g0, 0, none⟩) n2 k2) ∧ ww.cell? ⟨wB.heap.size + 1, 2, none⟩ = some (.slice a3 n3 k3) ∧ ww.cell? ⟨wB.heap.size + 1, 3, none⟩ = some (.slice a4 n4 k4)) := Lib.hid fun ww hww => by
                have h := ((hbW.trans (hww.mono hbW.size)).block _ (Array.getElem?_eq_some_iff.1 XR.out).1).trans XR.out
                rw [a2e] at h
                obtain ⟨r0, r1, r2, r3, -⟩ := cells4 h
                exact ⟨r0, r1, r2, r3⟩
              have CNTC : Hid (∀ ww, Below W.heap.size W ww → ww.cell? ⟨bb, 0, none⟩ = some (.int .i64 (pre.length : Int))) := Lib.hid fun ww hww => (hI.below hww).cell (List.mem_cons_self ..)
              have BOXC : Hid (∀ ww, Below W.heap.size W ww → ww.cell? ⟨D, 0, none⟩ = some (.string x.2.frm) ∧ ww.cell? ⟨D, 1, none⟩ = some (.string x.2.to) ∧ ww.cell? ⟨D, 2, none⟩ = some (.slice (slA x.2.bv) x.2.bs.length (slC x.2.bv))) := Lib.hid fun ww hww => by
                have h := (hww.block _ (Array.getElem?_eq_some_iff.1 hbx).1).trans hbx
                exact ⟨by rw [cell_of_row _ _ _ _ _ _ h]; rfl, by rw [cell_of_row _ _ _ _ _ _ h]; rfl, by rw [cell_of_row _ _ _ _ _ _ h, ← HBV.out]; rfl⟩
              have ROWC : Hid (∀ ww, Below W.heap.size W ww → ww.cell? ⟨g0, pre.length * 3, none⟩ = some (.string qr.frm) ∧ ww.cell? ⟨g0, pre.length * 3 + 1, none⟩ = some (.string qr.to) ∧ ww.cell? ⟨g0, pre.length * 3 + 2, none⟩ = some (.slice ra1 qr.bs.length ra2)) := Lib.hid fun ww hww =>
                ⟨bcells hww hgl E0, bcells hww hgl E1, bcells hww hgl E2⟩
              have SAME : Hid (∀ ww, Below W.heap.size W ww → Calls Try.prog 29 #[.agg #[.string x.2.frm, .string x.2.to, .slice (slA x.2.bv) x.2.bs.length (slC x.2.bv)], .agg #[.string qr.frm, .string qr.to, .slice ra1 qr.bs.length ra2]] ww fun e w' => e = .returned (.bool true) ∧ Below ww.heap.size ww w') := Lib.hid fun ww hww => by
                have h := rsame_any x.2 qr ww ((ownB_rd hPx.2.1 (by omega)).below hww) ((ownB_rd (RW.hb qr hqm) (by omega)).below hww)
                unfold Pk.val at h
                rw [hsame, hrbv, HBV.out] at h
                exact h
              have hge1 : decide ((pre.length : Int) ≥ (n2 : Int)) = false := by simp; omega
              have hge2 : decide (n2 ≤ pre.length) = false := by simp; omega
              have hnl2 : n2 ≤ 1000000 := by rw [← ea2]; exact HSM.out.hist
              have HX1 := Lib.hid hx1
              have hpl : pre.length ≤ 1000000 := by omega
              have HKP : Hid (∀ W6, Below W.heap.size W W6 → KpS (SH v2 N.hist) W (W6.setCell ⟨bb, 0, none⟩ (.int .i64 ((pre.length : Int) + 1)))) := Lib.hid fun W6 hb => kps_put hb fun k hk => ⟨by have h1 := HVH.out k hk; have h2 := hbW.size; omega, by have h1 := HVH.out k hk; omega⟩
              have MANYC : Hid (∀ ww, Below W.heap.size W ww → ww.heap[w.heap.size]? = some (.cells #[.int .i64 many] 3 (0, 0))) := Lib.hid fun ww hww =>
                ((hI.1.trans (hww.mono hI.1.size)).block _ (Array.getElem?_eq_some_iff.1 XM.out).1).trans XM.out
              have HI := Lib.hid hI
              have hwm : w.heap.size < bb := by have := (Array.getElem?_eq_some_iff.1 XM.out).1; omega
              clear hI hPx hbx hDW hqbs hrbv E0 E1 E2 hvh ea1 ea2 ea3 rh RW hqm hqr hsame hbW hgl hx1 hqn hlt hhl a2e
              rw [HX1.out]
              gi_wp2_with fail
              refine wpIn_region_grow (by kernel_rfl) (by kernel_rfl) (by kernel_rfl) ?_
              (refine grow_step rfl ?_; apply Exists.intro; refine ⟨fun ww hww => ?_, ?_⟩; (focus (unfold calmAt calmUpon; go_simp; first | rfl | exact ⟨rfl, hww⟩)); (simp only [Act.put, List.setIfInBounds_toArray, List.set_cons_succ, List.set_cons_zero]))
              (refine grow_step rfl ?_; apply Exists.intro; refine ⟨fun ww hww => ?_, ?_⟩; (focus (have cc := CNTC.out ww hww; unfold calmAt calmUpon; go_simp; first | rfl | exact ⟨rfl, hww⟩)); (simp only [Act.put, List.setIfInBounds_toArray, List.set_cons_succ, List.set_cons_zero]))
              iterate 2 (refine grow_step rfl ?_; apply Exists.intro; refine ⟨fun ww hww => ?_, ?_⟩; (focus (unfold calmAt calmUpon; go_simp; first | rfl | exact ⟨rfl, hww⟩)); (simp only [Act.put, List.setIfInBounds_toArray, List.set_cons_succ, List.set_cons_zero]))
              (refine grow_step rfl ?_; apply Exists.intro; refine ⟨fun ww hww => ?_, ?_⟩; (focus (have cc := CNTC.out ww hww; unfold calmAt calmUpon; go_simp; first | rfl | exact ⟨rfl, hww⟩)); (simp only [Act.put, List.setIfInBounds_toArray, List.set_cons_succ, List.set_cons_zero]))
              (refine grow_step rfl ?_; apply Exists.intro; refine ⟨fun ww hww => ?_, ?_⟩; (focus (unfold calmAt calmUpon; go_simp; first | rfl | exact ⟨rfl, hww⟩)); (simp only [Act.put, List.setIfInBounds_toArray, List.set_cons_succ, List.set_cons_zero]))
              (refine grow_step rfl ?_; apply Exists.intro; refine ⟨fun ww hww => ?_, ?_⟩; (focus (have cc := NETC.out ww hww; unfold calmAt calmUpon; go_simp; first | rfl | exact ⟨rfl, hww⟩)); (simp only [Act.put, List.setIfInBounds_toArray, List.set_cons_succ, List.set_cons_zero]))
              iterate 4 (refine grow_step rfl ?_; apply Exists.intro; refine ⟨fun ww hww => ?_, ?_⟩; (focus (unfold calmAt calmUpon; go_simp; first | rfl | exact ⟨rfl, hww⟩)); (simp only [Act.put, List.setIfInBounds_toArray, List.set_cons_succ, List.set_cons_zero]))
              (refine grow_step rfl ?_; apply Exists.intro; refine ⟨fun ww hww => ?_, ?_⟩; (focus (have cc := BOXC.out ww hww; unfold calmAt calmUpon; go_simp; first | rfl | exact ⟨rfl, hww⟩)); (simp only [Act.put, List.setIfInBounds_toArray, List.set_cons_succ, List.set_cons_zero]))
              (refine grow_step rfl ?_; apply Exists.intro; refine ⟨fun ww hww => ?_, ?_⟩; (focus (unfold calmAt calmUpon; go_simp; first | rfl | exact ⟨rfl, hww⟩)); (simp only [Act.put, List.setIfInBounds_toArray, List.set_cons_succ, List.set_cons_zero]))
              (refine grow_step rfl ?_; apply Exists.intro; refine ⟨fun ww hww => ?_, ?_⟩; (focus (have cc := NETC.out ww hww; unfold calmAt calmUpon; go_simp; first | rfl | exact ⟨rfl, hww⟩)); (simp only [Act.put, List.setIfInBounds_toArray, List.set_cons_succ, List.set_cons_zero]))
              (refine grow_step rfl ?_; apply Exists.intro; refine ⟨fun ww hww => ?_, ?_⟩; (focus (have cc := CNTC.out ww hww; unfold calmAt calmUpon; go_simp; first | rfl | exact ⟨rfl, hww⟩)); (simp only [Act.put, List.setIfInBounds_toArray, List.set_cons_succ, List.set_cons_zero]))
              (refine grow_step rfl ?_; apply Exists.intro; refine ⟨fun ww hww => ?_, ?_⟩; (focus (unfold calmAt calmUpon; go_simp; first | rfl | exact ⟨rfl, hww⟩)); (simp only [Act.put, List.setIfInBounds_toArray, List.set_cons_succ, List.set_cons_zero]))
              (refine grow_step rfl ?_; apply Exists.intro; refine ⟨fun ww hww => ?_, ?_⟩; (focus (have cc := ROWC.out ww hww; unfold calmAt calmUpon; go_simp; first | rfl | exact ⟨rfl, hww⟩)); (simp only [Act.put, List.setIfInBounds_toArray, List.set_cons_succ, List.set_cons_zero]))
              (refine grow_step rfl ?_; apply Exists.intro; refine ⟨fun ww hww => ?_, ?_⟩; (focus (unfold calmAt calmUpon; go_simp; refine (SAME.out ww hww).mono ?_; rintro e w1 ⟨rfl, hb1⟩; exact ⟨rfl, hww.trans (hb1.mono hww.size)⟩)); (simp only [Act.put, List.setIfInBounds_toArray, List.set_cons_succ, List.set_cons_zero]))
              iterate 2 (refine grow_step rfl ?_; apply Exists.intro; refine ⟨fun ww hww => ?_, ?_⟩; (focus (unfold calmAt calmUpon; go_simp; first | rfl | exact ⟨rfl, hww⟩)); (simp only [Act.put, List.setIfInBounds_toArray, List.set_cons_succ, List.set_cons_zero]))
              refine calm_nil ?_
              intro W6 b6
              have B6 := Lib.hid b6
              have K6 := Lib.hid (HI.out.below b6)
              have c6 := K6.out.cell (List.mem_cons_self ..)
              have f6 := K6.out.fz (List.mem_cons_self ..)
              have hp1 : (-9223372036854775808 : Int) ≤ (pre.length : Int) + 1 := by omega
              have hp2 : (pre.length : Int) + 1 ≤ 9223372036854775807 := by omega
              have K7 := Lib.hid (K6.out.put (by omega) (by simp [cnt, mrk]; omega) ((pre.length : Int) + 1))
              have c7 := K7.out.cell (List.mem_cons_self ..)
              have t7 : (W6.setCell ⟨bb, 0, none⟩ (.int .i64 ((pre.length : Int) + 1))).cell? ⟨tb, 0, none⟩ = some (.int .i64 0) := K7.out.cell (by simp [cnt, mrk])
              have m7 : (W6.setCell ⟨bb, 0, none⟩ (.int .i64 ((pre.length : Int) + 1))).cell? ⟨w.heap.size, 0, none⟩ = some (.int .i64 many) := by
                have h := (set_other (w := W6) (p := ⟨bb, 0, none⟩) (v := .int .i64 ((pre.length : Int) + 1)) (b := w.heap.size) (by show w.heap.size ≠ bb; omega)).trans (MANYC.out W6 B6.out)
                rw [cell_of_row _ _ _ _ _ _ h]; rfl
              clear b6
              by_cases hmm : many ≤ (pre.length : Int) + 1
              · have hg1 : decide ((pre.length : Int) + 1 ≥ many) = true := by simp; exact hmm
                have hg2 : decide (many ≤ (pre.length : Int) + 1) = true := by simp; exact hmm
                gi_wp2_with fail
                exact owe (id := 8) (full := False) (a := ⟨#[], []⟩) HI.out B6.out (by omega) (by omega) (by simp [cnt, mrk]; omega) (HKP.out W6 B6.out) (.inr ⟨rfl, fun h => h⟩)
              · have hg1 : decide ((pre.length : Int) + 1 ≥ many) = false := by simp; omega
                have hg2 : decide (many ≤ (pre.length : Int) + 1) = false := by simp; omega
                gi_wp2_with fail
                exact owe (id := 8) (full := False) (a := ⟨#[], []⟩) HI.out B6.out (by omega) (by omega) (by simp [cnt, mrk]; omega) (HKP.out W6 B6.out) (.inl rfl)

            case hend =>
              rintro D2_0 nb0 Wb0 hD2_0 hfb0 KB
              have KD : KInv wr [cnt cb 0, cnt ab (na0 : Int), mrk D1_0, cnt bb (nb0 : Int), mrk D2_0, cnt tb 0] Wb0.heap.size Wb0 := (KB.sub (by simp [cnt, mrk])).low (Nat.le_refl _)
              have hDb0 : D2_0 < Wb0.heap.size := KD.lt (x := mrk D2_0) (by simp [cnt, mrk])
              have hWb0 : Wa0.heap.size ≤ Wb0.heap.size := KB.2.2
              clear KB
              dsimp only
              go_wp2_with fail

              refine (wpIn_wide (n := 3)).1 ?_
              refine loop_ev ?a3 False wr cb [cnt ab (na0 : Int), mrk D1_0, cnt bb (nb0 : Int), mrk D2_0, cnt tb 0] rfl HT.out.evs ((KD.1.block _ (Array.getElem?_eq_some_iff.1 EE1.out).1).trans EE1.out) (row_stays EE2.out fun b h' => KD.1.block b (EE2.out.lt b h').2) KD ?assign ?body ?hend
              case assign =>
                intro l x W K hK
                have HK := Lib.hid hK
                clear hK
                simp only [encE, List.zip_toArray, List.zip_cons_cons, List.zip_nil_right, List.foldl_toArray, List.foldl_cons, List.foldl_nil, List.setIfInBounds_toArray, List.set_cons_succ, List.set_cons_zero]
                gi_wp2
                obtain ⟨D, hD⟩ : ∃ D, W.heap.size = D := ⟨_, rfl⟩
                have HK' := HK.out D hD
                rw [hD]
                exact HK'
              case body =>
                rintro l pre x D W hI hbx hDW hxe hlt
                have hevs : N.abs.evs = RN.evs := HPP.out.sim.evs
                have hbW := hI.1
                have RW := RE.out.below hbW
                rw [hevs] at hlt hxe
                obtain ⟨g0, c0, hve⟩ := slice_box RW.e (by omega)
                have ea := HA3.out
                rw [hve] at ea
                simp only [Value.slice.injEq] at ea
                obtain ⟨ea1, ea2, ea3⟩ := ea
                have re := RW.e
                rw [hve] at re
                have hgl : g0 < W.heap.size := (re.lt g0 rfl).2
                obtain ⟨E0, E1, E2⟩ := ev_at re hlt rfl
                have a3e : a3 = some ⟨g0, 0, none⟩ := ea1.symm
                have hpn : pre.length < n3 := by rw [← ea2]; exact hlt
                have NETC : Hid (∀ ww, Below W.heap.size W ww → ww.cell? ⟨wB.heap.size + 1, 0, none⟩ = some (.slice a1 n1 k1) ∧ ww.cell? ⟨wB.heap.size + 1, 1, none⟩ = some (.slice a2 n2 k2) ∧ ww.cell? ⟨wB.heap.size + 1, 2, none⟩ = some (.slice (some ⟨g0, 0, none⟩) n3 k3) ∧ ww.cell? ⟨wB.heap.size + 1, 3, none⟩ = some (.slice a4 n4 k4)) := Lib.hid fun ww hww => by
                  have h := ((hbW.trans (hww.mono hbW.size)).block _ (Array.getElem?_eq_some_iff.1 XR.out).1).trans XR.out
                  rw [a3e] at h
                  obtain ⟨r0, r1, r2, r3, -⟩ := cells4 h
                  exact ⟨r0, r1, r2, r3⟩
                have CNTC : Hid (∀ ww, Below W.heap.size W ww → ww.cell? ⟨cb, 0, none⟩ = some (.int .i64 (pre.length : Int))) := Lib.hid fun ww hww => (hI.below hww).cell (List.mem_cons_self ..)
                obtain ⟨ev, hev⟩ : ∃ ev, evAt RN.evs pre.length = ev := ⟨_, rfl⟩
                rw [hev] at hxe E0 E1 E2
                subst hxe
                dsimp only at hbx
                have BOXC : Hid (∀ ww, Below W.heap.size W ww → ww.cell? ⟨D, 0, none⟩ = some (.int .i64 ev.kind) ∧ ww.cell? ⟨D, 1, none⟩ = some (.int .i64 ev.id) ∧ ww.cell? ⟨D, 2, none⟩ = some (.int .i64 ev.frm)) := Lib.hid fun ww hww => by
                  have h := (hww.block _ (Array.getElem?_eq_some_iff.1 hbx).1).trans hbx
                  exact ⟨by rw [cell_of_row _ _ _ _ _ _ h]; rfl, by rw [cell_of_row _ _ _ _ _ _ h]; rfl, by rw [cell_of_row _ _ _ _ _ _ h]; rfl⟩
                have ROWC : Hid (∀ ww, Below W.heap.size W ww → ww.cell? ⟨g0, pre.length * 3, none⟩ = some (.int .i64 ev.kind) ∧ ww.cell? ⟨g0, pre.length * 3 + 1, none⟩ = some (.int .i64 ev.id) ∧ ww.cell? ⟨g0, pre.length * 3 + 2, none⟩ = some (.int .i64 ev.frm)) := Lib.hid fun ww hww =>
                  ⟨bcells hww hgl E0, bcells hww hgl E1, bcells hww hgl E2⟩
                have hge1 : decide ((pre.length : Int) ≥ (n3 : Int)) = false := by simp; omega
                have hge2 : decide (n3 ≤ pre.length) = false := by simp; omega
                have hnl2 : n3 ≤ 1000000 := by rw [← ea2]; exact HSM.out.evs
                have hpl : pre.length ≤ 1000000 := by omega
                have HKP : Hid (∀ W6, Below W.heap.size W W6 → KpR v3.ownBlock W (W6.setCell ⟨cb, 0, none⟩ (.int .i64 ((pre.length : Int) + 1)))) := Lib.hid fun W6 hb => kpr_put hb fun k hk => ⟨by have h1 := HVE.out k hk; have h2 := hbW.size; omega, by have h1 := HVE.out k hk; omega⟩
                have MANYC : Hid (∀ ww, Below W.heap.size W ww → ww.heap[w.heap.size]? = some (.cells #[.int .i64 many] 3 (0, 0))) := Lib.hid fun ww hww =>
                  ((hI.1.trans (hww.mono hI.1.size)).block _ (Array.getElem?_eq_some_iff.1 XM.out).1).trans XM.out
                have HI := Lib.hid hI
                have hwm : w.heap.size < cb := by have := (Array.getElem?_eq_some_iff.1 XM.out).1; omega
                clear hI hbx hDW E0 E1 E2 hve ea1 ea2 ea3 re RW hbW hgl hlt hev hevs a3e
                gi_wp2_with fail
                refine wpIn_region_grow (by kernel_rfl) (by kernel_rfl) (by kernel_rfl) ?_
                (refine grow_step rfl ?_; apply Exists.intro; refine ⟨fun ww hww => ?_, ?_⟩; (focus (unfold calmAt calmUpon; go_simp; first | rfl | exact ⟨rfl, hww⟩)); (simp only [Act.put, List.setIfInBounds_toArray, List.set_cons_succ, List.set_cons_zero]))
                (refine grow_step rfl ?_; apply Exists.intro; refine ⟨fun ww hww => ?_, ?_⟩; (focus (have cc := CNTC.out ww hww; unfold calmAt calmUpon; go_simp; first | rfl | exact ⟨rfl, hww⟩)); (simp only [Act.put, List.setIfInBounds_toArray, List.set_cons_succ, List.set_cons_zero]))
                iterate 2 (refine grow_step rfl ?_; apply Exists.intro; refine ⟨fun ww hww => ?_, ?_⟩; (focus (unfold calmAt calmUpon; go_simp; first | rfl | exact ⟨rfl, hww⟩)); (simp only [Act.put, List.setIfInBounds_toArray, List.set_cons_succ, List.set_cons_zero]))
                (refine grow_step rfl ?_; apply Exists.intro; refine ⟨fun ww hww => ?_, ?_⟩; (focus (have cc := CNTC.out ww hww; unfold calmAt calmUpon; go_simp; first | rfl | exact ⟨rfl, hww⟩)); (simp only [Act.put, List.setIfInBounds_toArray, List.set_cons_succ, List.set_cons_zero]))
                (refine grow_step rfl ?_; apply Exists.intro; refine ⟨fun ww hww => ?_, ?_⟩; (focus (unfold calmAt calmUpon; go_simp; first | rfl | exact ⟨rfl, hww⟩)); (simp only [Act.put, List.setIfInBounds_toArray, List.set_cons_succ, List.set_cons_zero]))
                (refine grow_step rfl ?_; apply Exists.intro; refine ⟨fun ww hww => ?_, ?_⟩; (focus (have cc := NETC.out ww hww; unfold calmAt calmUpon; go_simp; first | rfl | exact ⟨rfl, hww⟩)); (simp only [Act.put, List.setIfInBounds_toArray, List.set_cons_succ, List.set_cons_zero]))
                iterate 4 (refine grow_step rfl ?_; apply Exists.intro; refine ⟨fun ww hww => ?_, ?_⟩; (focus (unfold calmAt calmUpon; go_simp; first | rfl | exact ⟨rfl, hww⟩)); (simp only [Act.put, List.setIfInBounds_toArray, List.set_cons_succ, List.set_cons_zero]))
                (refine grow_step rfl ?_; apply Exists.intro; refine ⟨fun ww hww => ?_, ?_⟩; (focus (have cc := BOXC.out ww hww; unfold calmAt calmUpon; go_simp; first | rfl | exact ⟨rfl, hww⟩)); (simp only [Act.put, List.setIfInBounds_toArray, List.set_cons_succ, List.set_cons_zero]))
                (refine grow_step rfl ?_; apply Exists.intro; refine ⟨fun ww hww => ?_, ?_⟩; (focus (unfold calmAt calmUpon; go_simp; first | rfl | exact ⟨rfl, hww⟩)); (simp only [Act.put, List.setIfInBounds_toArray, List.set_cons_succ, List.set_cons_zero]))
                (refine grow_step rfl ?_; apply Exists.intro; refine ⟨fun ww hww => ?_, ?_⟩; (focus (have cc := NETC.out ww hww; unfold calmAt calmUpon; go_simp; first | rfl | exact ⟨rfl, hww⟩)); (simp only [Act.put, List.setIfInBounds_toArray, List.set_cons_succ, List.set_cons_zero]))
                (refine grow_step rfl ?_; apply Exists.intro; refine ⟨fun ww hww => ?_, ?_⟩; (focus (have cc := CNTC.out ww hww; unfold calmAt calmUpon; go_simp; first | rfl | exact ⟨rfl, hww⟩)); (simp only [Act.put, List.setIfInBounds_toArray, List.set_cons_succ, List.set_cons_zero]))
                (refine grow_step rfl ?_; apply Exists.intro; refine ⟨fun ww hww => ?_, ?_⟩; (focus (unfold calmAt calmUpon; go_simp; first | rfl | exact ⟨rfl, hww⟩)); (simp only [Act.put, List.setIfInBounds_toArray, List.set_cons_succ, List.set_cons_zero]))
                (refine grow_step rfl ?_; apply Exists.intro; refine ⟨fun ww hww => ?_, ?_⟩; (focus (have cc := ROWC.out ww hww; unfold calmAt calmUpon; go_simp; first | rfl | exact ⟨rfl, hww⟩)); (simp only [Act.put, List.setIfInBounds_toArray, List.set_cons_succ, List.set_cons_zero]))
                iterate 2 (refine grow_step rfl ?_; apply Exists.intro; refine ⟨fun ww hww => ?_, ?_⟩; (focus (unfold calmAt calmUpon; go_simp; first | rfl | exact ⟨rfl, hww⟩)); (simp only [Act.put, List.setIfInBounds_toArray, List.set_cons_succ, List.set_cons_zero]))
                refine calm_nil ?_
                intro W6 b6
                have B6 := Lib.hid b6
                have K6 := Lib.hid (HI.out.below b6)
                have c6 := K6.out.cell (List.mem_cons_self ..)
                have f6 := K6.out.fz (List.mem_cons_self ..)
                have hp1 : (-9223372036854775808 : Int) ≤ (pre.length : Int) + 1 := by omega
                have hp2 : (pre.length : Int) + 1 ≤ 9223372036854775807 := by omega
                have K7 := Lib.hid (K6.out.put (by omega) (by simp [cnt, mrk]; omega) ((pre.length : Int) + 1))
                have c7 := K7.out.cell (List.mem_cons_self ..)
                have t7 : (W6.setCell ⟨cb, 0, none⟩ (.int .i64 ((pre.length : Int) + 1))).cell? ⟨tb, 0, none⟩ = some (.int .i64 0) := K7.out.cell (by simp [cnt, mrk])
                have m7 : (W6.setCell ⟨cb, 0, none⟩ (.int .i64 ((pre.length : Int) + 1))).cell? ⟨w.heap.size, 0, none⟩ = some (.int .i64 many) := by
                  have h := (set_other (w := W6) (p := ⟨cb, 0, none⟩) (v := .int .i64 ((pre.length : Int) + 1)) (b := w.heap.size) (by show w.heap.size ≠ cb; omega)).trans (MANYC.out W6 B6.out)
                  rw [cell_of_row _ _ _ _ _ _ h]; rfl
                clear b6
                by_cases hmm : many ≤ (pre.length : Int) + 1
                · have hg1 : decide ((pre.length : Int) + 1 ≥ many) = true := by simp; exact hmm
                  have hg2 : decide (many ≤ (pre.length : Int) + 1) = true := by simp; exact hmm
                  gi_wp2_with fail
                  exact owe (id := 10) (full := False) (a := ⟨#[], []⟩) HI.out B6.out (by omega) (by omega) (by simp [cnt, mrk]; omega) (HKP.out W6 B6.out) (.inr ⟨rfl, fun h => h⟩)
                · have hg1 : decide ((pre.length : Int) + 1 ≥ many) = false := by simp; omega
                  have hg2 : decide (many ≤ (pre.length : Int) + 1) = false := by simp; omega
                  gi_wp2_with fail
                  exact owe (id := 10) (full := False) (a := ⟨#[], []⟩) HI.out B6.out (by omega) (by omega) (by simp [cnt, mrk]; omega) (HKP.out W6 B6.out) (.inl rfl)

              case hend =>
                rintro D3_0 nc0 Wc0 hD3_0 hfc0 KE
                have hWc0 : Wb0.heap.size ≤ Wc0.heap.size := KE.2.2
                have TBC0 : Hid (∀ ww, Below Wc0.heap.size Wc0 ww → ww.cell? ⟨tb, 0, none⟩ = some (.int .i64 0)) := Lib.hid fun ww hww => (KE.below hww).cell (by simp [cnt, mrk])
                have HKE0 := Lib.hid KE
                clear KE
                dsimp only
                go_wp2_with fail
                refine wp_region_grow (by kernel_rfl) (by kernel_rfl) ?_
                (refine grow_step rfl ?_; apply Exists.intro; refine ⟨fun ww hww => ?_, ?_⟩; (focus (have cc := TBC0.out ww hww; unfold calmAt calmUpon; go_simp; first | rfl | exact ⟨rfl, hww⟩)); (simp only [Act.put, List.setIfInBounds_toArray, List.set_cons_succ, List.set_cons_zero]))
                iterate 2 (refine grow_step rfl ?_; apply Exists.intro; refine ⟨fun ww hww => ?_, ?_⟩; (focus (unfold calmAt calmUpon; go_simp; first | rfl | exact ⟨rfl, hww⟩)); (simp only [Act.put, List.setIfInBounds_toArray, List.set_cons_succ, List.set_cons_zero]))
                iterate 18 (refine grow_skip rfl ?_; (simp only [Act.put, List.setIfInBounds_toArray, List.set_cons_succ, List.set_cons_zero]))
                (refine grow_step rfl ?_; apply Exists.intro; refine ⟨fun ww hww => ?_, ?_⟩; (focus (unfold calmAt calmUpon; go_simp; first | rfl | exact ⟨rfl, hww⟩)); (simp only [Act.put, List.setIfInBounds_toArray, List.set_cons_succ, List.set_cons_zero]))
                refine calm_nil ?_
                intro W6 b6
                have K6 := Lib.hid (HKE0.out.below b6)
                have t6 : W6.cell? ⟨tb, 0, none⟩ = some (.int .i64 0) := K6.out.cell (by simp [cnt, mrk])
                have hs6 : Wc0.heap.size ≤ W6.heap.size := b6.size
                have q1 : D1_0 < W6.heap.size := K6.out.lt (x := mrk D1_0) (by simp [cnt, mrk])
                have q2 : D2_0 < W6.heap.size := K6.out.lt (x := mrk D2_0) (by simp [cnt, mrk])
                have q3 : D3_0 < W6.heap.size := K6.out.lt (x := mrk D3_0) (by simp [cnt, mrk])
                have q0 : wr.heap.size ≤ W6.heap.size := K6.out.1.size
                clear b6
                go_wp2_with fail
                rw [rounds_succ]
                go_wp2_with fail
                obtain ⟨tb, htb⟩ : ∃ x, x = W6.heap.size := ⟨_, rfl⟩
                obtain ⟨ab, hab⟩ : ∃ x, x = tb + 1 := ⟨_, rfl⟩
                obtain ⟨bb, hbb⟩ : ∃ x, x = ab + 1 := ⟨_, rfl⟩
                obtain ⟨cb, hcb⟩ : ∃ x, x = bb + 1 := ⟨_, rfl⟩
                obtain ⟨V5, hW5⟩ : ∃ W5, W5 = ((((W6.alloc (.cells #[.int .i64 1] 3)).alloc (.cells #[.int .i64 0] 3)).alloc (.cells #[.int .i64 0] 3)).alloc (.cells #[.int .i64 0] 3)) := ⟨_, rfl⟩
                have LA : KInv wr [cnt ab 0, cnt bb 0, cnt cb 0, cnt tb 1, mrk D1_0, mrk D2_0, mrk D3_0] V5.heap.size V5 := by
                  have h := ((((K6.out.sub (ys := [mrk D1_0, mrk D2_0, mrk D3_0]) (by simp [cnt, mrk])).box (.cells #[.int .i64 1] 3) tb htb).box (.cells #[.int .i64 0] 3) ab (by simp; omega)).box (.cells #[.int .i64 0] 3) bb (by simp; omega)).box (.cells #[.int .i64 0] 3) cb (by simp; omega)
                  rw [hW5]
                  exact (h.sub (by simp [cnt, mrk])).low (Nat.le_refl _)
                have hwt : wr.heap.size ≤ tb := by omega
                have hta : tb < ab := by omega
                have h_ab : ab < bb := by omega
                have h_bc : bb < cb := by omega
                have hc5 : cb < V5.heap.size := by rw [hW5]; simp; omega
                have q1 : D1_0 < tb := by omega
                have q2 : D2_0 < tb := by omega
                have q3 : D3_0 < tb := by omega
                rw [← hW5, ← htb, ← hab, ← hbb, ← hcb]
                clear hW5 htb hab hbb hcb t6

                have FP1 := fl43_px 2 B1 V5.heap.size v1 L1 V5 HLN.out.1 (FE.out.below' LA.1).box (FE.out.below' LA.1).row (FE.out.below' LA.1).own FEL.out (Nat.le_refl _)
                rw [FE.out.abs] at FP1
                refine (wpIn_wide (n := 3)).1 ?_
                refine loop_px ?b1 True wr ab [cnt bb 0, cnt cb 0, cnt tb 1, mrk D1_0, mrk D2_0, mrk D3_0] rfl (enters_of Try.func43 (by kernel_rfl) rfl) FP1 (fun k hk => Nat.lt_of_lt_of_le (HVF.out k hk) LA.1.size) (fun ys hy => by
                  have h1 := congrArg List.length hy
                  rw [List.length_map] at h1
                  rw [h1, HLN.out.2]
                  simp [upF]) LA (pxF_own _ _ _) (fun pre x W W' h hb => ⟨h.1, row_stays h.2.1 fun b h' => hb.block b (h.2.1.lt b h').2, h.2.2⟩) (fun _ _ _ h => h.2.1) ?assign ?body ?hend
                case assign =>
                  intro l x W K hbv hK

                  have HK := Lib.hid hK
                  clear hK hbv
                  simp only [List.zip_toArray, List.zip_cons_cons, List.zip_nil_right, List.foldl_toArray, List.foldl_cons, List.foldl_nil, List.setIfInBounds_toArray, List.set_cons_succ, List.set_cons_zero]
                  gi_wp2
                  obtain ⟨D, hD⟩ : ∃ D, W.heap.size = D := ⟨_, rfl⟩
                  have HK' := HK.out D hD
                  rw [hD]
                  exact HK'
                case body =>
                  rintro l pre x D W hI hPx hbx hDW hlt
                  rw [HLN.out.2] at hlt
                  obtain ⟨y, xr, hym, hyid, hxr, hgone, hsrc, hgen, hsame, hlast, hsl, hxabs⟩ := fl_facts HPP.out hPx hlt
                  have hbW := hI.1
                  have hxn : x.1 < RN.all.length := (List.getElem?_eq_some_iff.1 hxr).1
                  have hxm := List.mem_of_getElem? hxr
                  have RW := RE.out.below hbW
                  obtain ⟨g0, c0, hva⟩ := slice_box RW.a (by omega)
                  have ra := RW.a
                  rw [hva] at ra
                  obtain ⟨n, hn⟩ : ∃ n, RN.all.length = n := ⟨_, rfl⟩
                  rw [hn] at ra hva hxn
                  have ea := HA1.out
                  rw [hva] at ea
                  simp only [Value.slice.injEq] at ea
                  obtain ⟨ea1, ea2, ea3⟩ := ea
                  have hgl : g0 < W.heap.size := (ra.lt g0 rfl).2
                  obtain ⟨ra1, ra2, hrbv⟩ := ownB_slice (RW.ab xr hxm)
                  have E0 := el_at (f := RFl.cells) (fun _ => rfl) ra hxr hn 0 (by decide)
                  have E1 := el_at (f := RFl.cells) (fun _ => rfl) ra hxr hn 1 (by decide)
                  have E2 := el_at (f := RFl.cells) (fun _ => rfl) ra hxr hn 2 (by decide)
                  simp [RFl.cells, hrbv] at E0 E1 E2
                  have hbl : xr.p.bs.length ≤ 65536 := by
                    have := RW.aok xr hxm
                    simp only [validB, Bool.and_eq_true, decide_eq_true_eq] at this
                    exact this.2
                  have hxl : x.2.bs.length ≤ 65536 := by rw [← hxabs]; exact hbl
                  have HBV := Lib.hid (slice_parts hPx.2.1)
                  have n1e : n1 = n := ea2.symm
                  have a1e : a1 = some ⟨g0, 0, none⟩ := ea1.symm
                  have NETC : Hid (∀ ww, Below W.heap.size W ww → ww.cell? ⟨wB.heap.size + 1, 0, none⟩ = some (.slice (some ⟨g0, 0, none⟩) n k1) ∧ ww.cell? ⟨wB.heap.size + 1, 1, none⟩ = some (.slice a2 n2 k2) ∧ ww.cell? ⟨wB.heap.size + 1, 2, none⟩ = some (.slice a3 n3 k3) ∧ ww.cell? ⟨wB.heap.size + 1, 3, none⟩ = some (.slice a4 n4 k4)) := Lib.hid fun ww hww => by
                    have h := ((hbW.trans (hww.mono hbW.size)).block _ (Array.getElem?_eq_some_iff.1 XR.out).1).trans XR.out
                    rw [n1e, a1e] at h
                    obtain ⟨r0, r1, r2, r3, -⟩ := cells4 h
                    exact ⟨r0, r1, r2, r3⟩
                  have BOXC : Hid (∀ ww, Below W.heap.size W ww → ww.cell? ⟨D, 0, none⟩ = some (.string x.2.frm) ∧ ww.cell? ⟨D, 1, none⟩ = some (.string x.2.to) ∧ ww.cell? ⟨D, 2, none⟩ = some (.slice (slA x.2.bv) x.2.bs.length (slC x.2.bv))) := Lib.hid fun ww hww => by
                    have h := (hww.block _ (Array.getElem?_eq_some_iff.1 hbx).1).trans hbx
                    exact ⟨by rw [cell_of_row _ _ _ _ _ _ h]; rfl, by rw [cell_of_row _ _ _ _ _ _ h]; rfl, by rw [cell_of_row _ _ _ _ _ _ h, ← HBV.out]; rfl⟩
                  have ROWC : Hid (∀ ww, Below W.heap.size W ww → ww.cell? ⟨g0, x.1 * 5, none⟩ = some (.string xr.p.frm) ∧ ww.cell? ⟨g0, x.1 * 5 + 1, none⟩ = some (.string xr.p.to) ∧ ww.cell? ⟨g0, x.1 * 5 + 2, none⟩ = some (.slice ra1 xr.p.bs.length ra2)) := Lib.hid fun ww hww =>
                    ⟨bcells hww hgl E0, bcells hww hgl E1, bcells hww hgl E2⟩
                  have FLIES : Hid (∀ ww, Below W.heap.size W ww → Calls Try.prog 26 #[.agg #[.slice (some ⟨g0, 0, none⟩) n k1, .slice a2 n2 k2, .slice a3 n3 k3, .slice a4 n4 k4], .int .i64 (x.1 : Nat)] ww fun e w' => e = .returned (.bool true) ∧ Below ww.heap.size ww w') := Lib.hid fun ww hww => by
                    have h := flies_any RN ww (RW.below hww) HSM.out (x.1 : Nat)
                    rw [HVAL.out, n1e, a1e, show fliesB RN.all (x.1 : Nat) = true by simp [fliesB, hxr, hgone]] at h
                    exact h
                  have SAME : Hid (∀ ww, Below W.heap.size W ww → Calls Try.prog 29 #[.agg #[.string x.2.frm, .string x.2.to, .slice (slA x.2.bv) x.2.bs.length (slC x.2.bv)], .agg #[.string xr.p.frm, .string xr.p.to, .slice ra1 xr.p.bs.length ra2]] ww fun e w' => e = .returned (.bool true) ∧ Below ww.heap.size ww w') := Lib.hid fun ww hww => by
                    have h := rsame_any x.2 xr.p ww ((ownB_rd hPx.2.1 (by rw [← hxabs]; omega)).below hww) ((ownB_rd (RW.ab xr hxm) (by omega)).below hww)
                    unfold Pk.val at h
                    rw [hsame, hrbv, HBV.out] at h
                    exact h
                  have hx0 : (0 : Int) ≤ (x.1 : Int) := by omega
                  have hxt : ((x.1 : Int)).toNat = x.1 := by omega
                  have hnl2 : n ≤ 1000000 := by rw [← hn]; exact HSM.out.all
                  have hpl : pre.length ≤ 1000000 := by have := HLN.out.1; have := HLN.out.2; omega
                  have HKP : Hid (∀ W6, Below W.heap.size W W6 → KpS (SF v1 L1) W (W6.setCell ⟨ab, 0, none⟩ (.int .i64 ((pre.length : Int) + 1)))) := Lib.hid fun W6 hb => kps_put hb fun k hk => ⟨by have h1 := HVF.out k hk; have h2 := hbW.size; omega, by have h1 := HVF.out k hk; omega⟩
                  have MANYC : Hid (∀ ww, Below W.heap.size W ww → ww.heap[w.heap.size]? = some (.cells #[.int .i64 many] 3 (0, 0))) := Lib.hid fun ww hww =>
                    ((hI.1.trans (hww.mono hI.1.size)).block _ (Array.getElem?_eq_some_iff.1 XM.out).1).trans XM.out
                  have HI := Lib.hid hI
                  have hwm : w.heap.size < ab := by have := (Array.getElem?_eq_some_iff.1 XM.out).1; omega
                  clear hI hPx hbx hDW hxabs hrbv E0 E1 E2 hn hva ea1 ea2 ea3 ra RW hxm hxr hsl hgone hgen hsame hsrc hyid hym hlast hbW hgl n1e a1e
                  gi_wp2_with fail
                  refine wpIn_region_grow (by kernel_rfl) (by kernel_rfl) (by kernel_rfl) ?_
                  (refine grow_step rfl ?_; apply Exists.intro; refine ⟨fun ww hww => ?_, ?_⟩; (focus (have cc := NETC.out ww hww; unfold calmAt calmUpon; go_simp; first | rfl | exact ⟨rfl, hww⟩)); (simp only [Act.put, List.setIfInBounds_toArray, List.set_cons_succ, List.set_cons_zero]))
                  (refine grow_step rfl ?_; apply Exists.intro; refine ⟨fun ww hww => ?_, ?_⟩; (focus (unfold calmAt calmUpon; go_simp; first | rfl | exact ⟨rfl, hww⟩)); (simp only [Act.put, List.setIfInBounds_toArray, List.set_cons_succ, List.set_cons_zero]))
                  (refine grow_step rfl ?_; apply Exists.intro; refine ⟨fun ww hww => ?_, ?_⟩; (focus (unfold calmAt calmUpon; go_simp; refine (FLIES.out ww hww).mono ?_; rintro e w1 ⟨rfl, hb1⟩; exact ⟨rfl, hww.trans (hb1.mono hww.size)⟩)); (simp only [Act.put, List.setIfInBounds_toArray, List.set_cons_succ, List.set_cons_zero]))
                  iterate 2 (refine grow_step rfl ?_; apply Exists.intro; refine ⟨fun ww hww => ?_, ?_⟩; (focus (unfold calmAt calmUpon; go_simp; first | rfl | exact ⟨rfl, hww⟩)); (simp only [Act.put, List.setIfInBounds_toArray, List.set_cons_succ, List.set_cons_zero]))
                  (refine grow_step rfl ?_; apply Exists.intro; refine ⟨fun ww hww => ?_, ?_⟩; (focus (have cc := BOXC.out ww hww; unfold calmAt calmUpon; go_simp; first | rfl | exact ⟨rfl, hww⟩)); (simp only [Act.put, List.setIfInBounds_toArray, List.set_cons_succ, List.set_cons_zero]))
                  (refine grow_step rfl ?_; apply Exists.intro; refine ⟨fun ww hww => ?_, ?_⟩; (focus (unfold calmAt calmUpon; go_simp; first | rfl | exact ⟨rfl, hww⟩)); (simp only [Act.put, List.setIfInBounds_toArray, List.set_cons_succ, List.set_cons_zero]))
                  (refine grow_step rfl ?_; apply Exists.intro; refine ⟨fun ww hww => ?_, ?_⟩; (focus (have cc := NETC.out ww hww; unfold calmAt calmUpon; go_simp; first | rfl | exact ⟨rfl, hww⟩)); (simp only [Act.put, List.setIfInBounds_toArray, List.set_cons_succ, List.set_cons_zero]))
                  iterate 3 (refine grow_step rfl ?_; apply Exists.intro; refine ⟨fun ww hww => ?_, ?_⟩; (focus (unfold calmAt calmUpon; go_simp; first | rfl | exact ⟨rfl, hww⟩)); (simp only [Act.put, List.setIfInBounds_toArray, List.set_cons_succ, List.set_cons_zero]))
                  (refine grow_step rfl ?_; apply Exists.intro; refine ⟨fun ww hww => ?_, ?_⟩; (focus (have cc := ROWC.out ww hww; unfold calmAt calmUpon; go_simp; first | rfl | exact ⟨rfl, hww⟩)); (simp only [Act.put, List.setIfInBounds_toArray, List.set_cons_succ, List.set_cons_zero]))
                  (refine grow_step rfl ?_; apply Exists.intro; refine ⟨fun ww hww => ?_, ?_⟩; (focus (unfold calmAt calmUpon; go_simp; refine (SAME.out ww hww).mono ?_; rintro e w1 ⟨rfl, hb1⟩; exact ⟨rfl, hww.trans (hb1.mono hww.size)⟩)); (simp only [Act.put, List.setIfInBounds_toArray, List.set_cons_succ, List.set_cons_zero]))
                  iterate 2 (refine grow_step rfl ?_; apply Exists.intro; refine ⟨fun ww hww => ?_, ?_⟩; (focus (unfold calmAt calmUpon; go_simp; first | rfl | exact ⟨rfl, hww⟩)); (simp only [Act.put, List.setIfInBounds_toArray, List.set_cons_succ, List.set_cons_zero]))
                  refine calm_nil ?_
                  intro W6 b6
                  have B6 := Lib.hid b6
                  have K6 := Lib.hid (HI.out.below b6)
                  have c6 := K6.out.cell (List.mem_cons_self ..)
                  have f6 := K6.out.fz (List.mem_cons_self ..)
                  have hp1 : (-9223372036854775808 : Int) ≤ (pre.length : Int) + 1 := by omega
                  have hp2 : (pre.length : Int) + 1 ≤ 9223372036854775807 := by omega
                  have K7 := Lib.hid (K6.out.put (by omega) (by simp [cnt, mrk]; omega) ((pre.length : Int) + 1))
                  have c7 := K7.out.cell (List.mem_cons_self ..)
                  have t7 : (W6.setCell ⟨ab, 0, none⟩ (.int .i64 ((pre.length : Int) + 1))).cell? ⟨tb, 0, none⟩ = some (.int .i64 1) := K7.out.cell (by simp [cnt, mrk])
                  have m7 : (W6.setCell ⟨ab, 0, none⟩ (.int .i64 ((pre.length : Int) + 1))).cell? ⟨w.heap.size, 0, none⟩ = some (.int .i64 many) := by
                    have h := (set_other (w := W6) (p := ⟨ab, 0, none⟩) (v := .int .i64 ((pre.length : Int) + 1)) (b := w.heap.size) (by show w.heap.size ≠ ab; omega)).trans (MANYC.out W6 B6.out)
                    rw [cell_of_row _ _ _ _ _ _ h]; rfl
                  clear b6
                  gi_wp2_with fail
                  exact owe (id := 6) (full := True) (a := ⟨#[], []⟩) HI.out B6.out (by omega) (by omega) (by simp [cnt, mrk]; omega) (HKP.out W6 B6.out) (.inl rfl)

                case hend =>
                  rintro D1_1 na1 Wa1 hD1_1 hfa1 KB
                  have KC : KInv wr [cnt bb 0, cnt ab (na1 : Int), mrk D1_1, cnt cb 0, cnt tb 1, mrk D1_0, mrk D2_0, mrk D3_0] Wa1.heap.size Wa1 := (KB.sub (by simp [cnt, mrk])).low (Nat.le_refl _)
                  have hDa1 : D1_1 < Wa1.heap.size := KC.lt (x := mrk D1_1) (by simp [cnt, mrk])
                  have hWa1 : V5.heap.size ≤ Wa1.heap.size := KB.2.2
                  clear KB
                  dsimp only
                  go_wp2_with fail

                  have FP1h := hist53_px 2 B2 Wa1.heap.size v2 N.hist Wa1 (by have h := HT.out.hist; rw [abs_hist] at h; omega) (HE_.out.below KC.1).box (HE_.out.below KC.1).row (fun q hq => row_stays (HH.out q hq).1 fun b h' => KC.1.block b ((HH.out q hq).1.lt b h').2) (fun q hq => (HH.out q hq).2) (Nat.le_refl _)
                  refine (wpIn_wide (n := 3)).1 ?_
                  refine loop_px ?b2 True wr bb [cnt ab (na1 : Int), mrk D1_1, cnt cb 0, cnt tb 1, mrk D1_0, mrk D2_0, mrk D3_0] rfl (enters_of Try.func53 (by kernel_rfl) rfl) FP1h (fun k hk => Nat.lt_of_lt_of_le (HVH.out k hk) KC.1.size) (fun ys hy => by
                    have h1 := congrArg List.length hy
                    rw [List.length_map] at h1
                    rw [h1]
                    simp [upP]) KC (pxH_own _ _ _) (fun pre x W W' h hb => ⟨h.1, row_stays h.2.1 fun b h' => hb.block b (h.2.1.lt b h').2, h.2.2⟩) (fun _ _ _ h => h.2.1) ?assign ?body ?hend
                  case assign =>
                    intro l x W K hbv hK
                    have HK := Lib.hid hK
                    clear hK hbv
                    simp only [List.zip_toArray, List.zip_cons_cons, List.zip_nil_right, List.foldl_toArray, List.foldl_cons, List.foldl_nil, List.setIfInBounds_toArray, List.set_cons_succ, List.set_cons_zero]
                    gi_wp2
                    obtain ⟨D, hD⟩ : ∃ D, W.heap.size = D := ⟨_, rfl⟩
                    have HK' := HK.out D hD
                    rw [hD]
                    exact HK'
                  case body =>
                    rintro l pre x D W hI hPx hbx hDW hlt
                    have hhl : N.abs.hist.length = N.hist.length := by rw [abs_hist]
                    rw [← hhl] at hlt
                    obtain ⟨qr, hqr, hx1, hsame, hqbs⟩ := hi_facts HPP.out (show PxH _ N.abs.hist pre x W from hPx) hlt
                    have hbW := hI.1
                    have hqm := List.mem_of_getElem? hqr
                    have hqn : pre.length < RN.hist.length := (List.getElem?_eq_some_iff.1 hqr).1
                    have RW := RE.out.below hbW
                    obtain ⟨g0, c0, hvh⟩ := slice_box RW.h (by omega)
                    have ea := HA2r.out
                    rw [hvh] at ea
                    simp only [Value.slice.injEq] at ea
                    obtain ⟨ea1, ea2, ea3⟩ := ea
                    have rh := RW.h
                    rw [hvh] at rh
                    have hgl : g0 < W.heap.size := (rh.lt g0 rfl).2
                    obtain ⟨ra1, ra2, hrbv⟩ := ownB_slice (RW.hb qr hqm)
                    have E0 := el_at (f := Pk.cells) (fun _ => rfl) rh hqr rfl 0 (by decide)
                    have E1 := el_at (f := Pk.cells) (fun _ => rfl) rh hqr rfl 1 (by decide)
                    have E2 := el_at (f := Pk.cells) (fun _ => rfl) rh hqr rfl 2 (by decide)
                    simp [Pk.cells, hrbv] at E0 E1 E2
                    have hbl : qr.bs.length ≤ 65536 := by
                      have := RW.hok qr hqm
                      simp only [validB, Bool.and_eq_true, decide_eq_true_eq] at this
                      exact this.2
                    have hxl : x.2.bs.length ≤ 65536 := by rw [← hqbs]; exact hbl
                    have HBV := Lib.hid (slice_parts hPx.2.1)
                    have a2e : a2 = some ⟨g0, 0, none⟩ := ea1.symm
                    have hpn : pre.length < n2 := by rw [← ea2]; exact hqn
                    have NETC : Hid (∀ ww, Below W.heap.size W ww → ww.cell? ⟨wB.heap.size + 1, 0, none⟩ = some (.slice a1 n1 k1) ∧ ww.cell? ⟨wB.heap.size + 1, 1, none⟩ = some (.slice (some ⟨g0, 0, none⟩) n2 k2) ∧ ww.cell? ⟨wB.heap.size + 1, 2, none⟩ = some (.slice a3 n3 k3) ∧ ww.cell? ⟨wB.heap.size + 1, 3, none⟩ = some (.slice a4 n4 k4)) := Lib.hid fun ww hww => by
                      have h := ((hbW.trans (hww.mono hbW.size)).block _ (Array.getElem?_eq_some_iff.1 XR.out).1).trans XR.out
                      rw [a2e] at h
                      obtain ⟨r0, r1, r2, r3, -⟩ := cells4 h
                      exact ⟨r0, r1, r2, r3⟩
                    have CNTC : Hid (∀ ww, Below W.heap.size W ww → ww.cell? ⟨bb, 0, none⟩ = some (.int .i64 (pre.length : Int))) := Lib.hid fun ww hww => (hI.below hww).cell (List.mem_cons_self ..)
                    have BOXC : Hid (∀ ww, Below W.heap.size W ww → ww.cell? ⟨D, 0, none⟩ = some (.string x.2.frm) ∧ ww.cell? ⟨D, 1, none⟩ = some (.string x.2.to) ∧ ww.cell? ⟨D, 2, none⟩ = some (.slice (slA x.2.bv) x.2.bs.length (slC x.2.bv))) := Lib.hid fun ww hww => by
                      have h := (hww.block _ (Array.getElem?_eq_some_iff.1 hbx).1).trans hbx
                      exact ⟨by rw [cell_of_row _ _ _ _ _ _ h]; rfl, by rw [cell_of_row _ _ _ _ _ _ h]; rfl, by rw [cell_of_row _ _ _ _ _ _ h, ← HBV.out]; rfl⟩
                    have ROWC : Hid (∀ ww, Below W.heap.size W ww → ww.cell? ⟨g0, pre.length * 3, none⟩ = some (.string qr.frm) ∧ ww.cell? ⟨g0, pre.length * 3 + 1, none⟩ = some (.string qr.to) ∧ ww.cell? ⟨g0, pre.length * 3 + 2, none⟩ = some (.slice ra1 qr.bs.length ra2)) := Lib.hid fun ww hww =>
                      ⟨bcells hww hgl E0, bcells hww hgl E1, bcells hww hgl E2⟩
                    have SAME : Hid (∀ ww, Below W.heap.size W ww → Calls Try.prog 29 #[.agg #[.string x.2.frm, .string x.2.to, .slice (slA x.2.bv) x.2.bs.length (slC x.2.bv)], .agg #[.string qr.frm, .string qr.to, .slice ra1 qr.bs.length ra2]] ww fun e w' => e = .returned (.bool true) ∧ Below ww.heap.size ww w') := Lib.hid fun ww hww => by
                      have h := rsame_any x.2 qr ww ((ownB_rd hPx.2.1 (by omega)).below hww) ((ownB_rd (RW.hb qr hqm) (by omega)).below hww)
                      unfold Pk.val at h
                      rw [hsame, hrbv, HBV.out] at h
                      exact h
                    have hge1 : decide ((pre.length : Int) ≥ (n2 : Int)) = false := by simp; omega
                    have hge2 : decide (n2 ≤ pre.length) = false := by simp; omega
                    have hnl2 : n2 ≤ 1000000 := by rw [← ea2]; exact HSM.out.hist
                    have HX1 := Lib.hid hx1
                    have hpl : pre.length ≤ 1000000 := by omega
                    have HKP : Hid (∀ W6, Below W.heap.size W W6 → KpS (SH v2 N.hist) W (W6.setCell ⟨bb, 0, none⟩ (.int .i64 ((pre.length : Int) + 1)))) := Lib.hid fun W6 hb => kps_put hb fun k hk => ⟨by have h1 := HVH.out k hk; have h2 := hbW.size; omega, by have h1 := HVH.out k hk; omega⟩
                    have MANYC : Hid (∀ ww, Below W.heap.size W ww → ww.heap[w.heap.size]? = some (.cells #[.int .i64 many] 3 (0, 0))) := Lib.hid fun ww hww =>
                      ((hI.1.trans (hww.mono hI.1.size)).block _ (Array.getElem?_eq_some_iff.1 XM.out).1).trans XM.out
                    have HI := Lib.hid hI
                    have hwm : w.heap.size < bb := by have := (Array.getElem?_eq_some_iff.1 XM.out).1; omega
                    clear hI hPx hbx hDW hqbs hrbv E0 E1 E2 hvh ea1 ea2 ea3 rh RW hqm hqr hsame hbW hgl hx1 hqn hlt hhl a2e
                    rw [HX1.out]
                    gi_wp2_with fail
                    refine wpIn_region_grow (by kernel_rfl) (by kernel_rfl) (by kernel_rfl) ?_
                    (refine grow_step rfl ?_; apply Exists.intro; refine ⟨fun ww hww => ?_, ?_⟩; (focus (unfold calmAt calmUpon; go_simp; first | rfl | exact ⟨rfl, hww⟩)); (simp only [Act.put, List.setIfInBounds_toArray, List.set_cons_succ, List.set_cons_zero]))
                    (refine grow_step rfl ?_; apply Exists.intro; refine ⟨fun ww hww => ?_, ?_⟩; (focus (have cc := CNTC.out ww hww; unfold calmAt calmUpon; go_simp; first | rfl | exact ⟨rfl, hww⟩)); (simp only [Act.put, List.setIfInBounds_toArray, List.set_cons_succ, List.set_cons_zero]))
                    iterate 2 (refine grow_step rfl ?_; apply Exists.intro; refine ⟨fun ww hww => ?_, ?_⟩; (focus (unfold calmAt calmUpon; go_simp; first | rfl | exact ⟨rfl, hww⟩)); (simp only [Act.put, List.setIfInBounds_toArray, List.set_cons_succ, List.set_cons_zero]))
                    (refine grow_step rfl ?_; apply Exists.intro; refine ⟨fun ww hww => ?_, ?_⟩; (focus (have cc := CNTC.out ww hww; unfold calmAt calmUpon; go_simp; first | rfl | exact ⟨rfl, hww⟩)); (simp only [Act.put, List.setIfInBounds_toArray, List.set_cons_succ, List.set_cons_zero]))
                    (refine grow_step rfl ?_; apply Exists.intro; refine ⟨fun ww hww => ?_, ?_⟩; (focus (unfold calmAt calmUpon; go_simp; first | rfl | exact ⟨rfl, hww⟩)); (simp only [Act.put, List.setIfInBounds_toArray, List.set_cons_succ, List.set_cons_zero]))
                    (refine grow_step rfl ?_; apply Exists.intro; refine ⟨fun ww hww => ?_, ?_⟩; (focus (have cc := NETC.out ww hww; unfold calmAt calmUpon; go_simp; first | rfl | exact ⟨rfl, hww⟩)); (simp only [Act.put, List.setIfInBounds_toArray, List.set_cons_succ, List.set_cons_zero]))
                    iterate 4 (refine grow_step rfl ?_; apply Exists.intro; refine ⟨fun ww hww => ?_, ?_⟩; (focus (unfold calmAt calmUpon; go_simp; first | rfl | exact ⟨rfl, hww⟩)); (simp only [Act.put, List.setIfInBounds_toArray, List.set_cons_succ, List.set_cons_zero]))
                    (refine grow_step rfl ?_; apply Exists.intro; refine ⟨fun ww hww => ?_, ?_⟩; (focus (have cc := BOXC.out ww hww; unfold calmAt calmUpon; go_simp; first | rfl | exact ⟨rfl, hww⟩)); (simp only [Act.put, List.setIfInBounds_toArray, List.set_cons_succ, List.set_cons_zero]))
                    (refine grow_step rfl ?_; apply Exists.intro; refine ⟨fun ww hww => ?_, ?_⟩; (focus (unfold calmAt calmUpon; go_simp; first | rfl | exact ⟨rfl, hww⟩)); (simp only [Act.put, List.setIfInBounds_toArray, List.set_cons_succ, List.set_cons_zero]))
                    (refine grow_step rfl ?_; apply Exists.intro; refine ⟨fun ww hww => ?_, ?_⟩; (focus (have cc := NETC.out ww hww; unfold calmAt calmUpon; go_simp; first | rfl | exact ⟨rfl, hww⟩)); (simp only [Act.put, List.setIfInBounds_toArray, List.set_cons_succ, List.set_cons_zero]))
                    (refine grow_step rfl ?_; apply Exists.intro; refine ⟨fun ww hww => ?_, ?_⟩; (focus (have cc := CNTC.out ww hww; unfold calmAt calmUpon; go_simp; first | rfl | exact ⟨rfl, hww⟩)); (simp only [Act.put, List.setIfInBounds_toArray, List.set_cons_succ, List.set_cons_zero]))
                    (refine grow_step rfl ?_; apply Exists.intro; refine ⟨fun ww hww => ?_, ?_⟩; (focus (unfold calmAt calmUpon; go_simp; first | rfl | exact ⟨rfl, hww⟩)); (simp only [Act.put, List.setIfInBounds_toArray, List.set_cons_succ, List.set_cons_zero]))
                    (refine grow_step rfl ?_; apply Exists.intro; refine ⟨fun ww hww => ?_, ?_⟩; (focus (have cc := ROWC.out ww hww; unfold calmAt calmUpon; go_simp; first | rfl | exact ⟨rfl, hww⟩)); (simp only [Act.put, List.setIfInBounds_toArray, List.set_cons_succ, List.set_cons_zero]))
                    (refine grow_step rfl ?_; apply Exists.intro; refine ⟨fun ww hww => ?_, ?_⟩; (focus (unfold calmAt calmUpon; go_simp; refine (SAME.out ww hww).mono ?_; rintro e w1 ⟨rfl, hb1⟩; exact ⟨rfl, hww.trans (hb1.mono hww.size)⟩)); (simp only [Act.put, List.setIfInBounds_toArray, List.set_cons_succ, List.set_cons_zero]))
                    iterate 2 (refine grow_step rfl ?_; apply Exists.intro; refine ⟨fun ww hww => ?_, ?_⟩; (focus (unfold calmAt calmUpon; go_simp; first | rfl | exact ⟨rfl, hww⟩)); (simp only [Act.put, List.setIfInBounds_toArray, List.set_cons_succ, List.set_cons_zero]))
                    refine calm_nil ?_
                    intro W6 b6
                    have B6 := Lib.hid b6
                    have K6 := Lib.hid (HI.out.below b6)
                    have c6 := K6.out.cell (List.mem_cons_self ..)
                    have f6 := K6.out.fz (List.mem_cons_self ..)
                    have hp1 : (-9223372036854775808 : Int) ≤ (pre.length : Int) + 1 := by omega
                    have hp2 : (pre.length : Int) + 1 ≤ 9223372036854775807 := by omega
                    have K7 := Lib.hid (K6.out.put (by omega) (by simp [cnt, mrk]; omega) ((pre.length : Int) + 1))
                    have c7 := K7.out.cell (List.mem_cons_self ..)
                    have t7 : (W6.setCell ⟨bb, 0, none⟩ (.int .i64 ((pre.length : Int) + 1))).cell? ⟨tb, 0, none⟩ = some (.int .i64 1) := K7.out.cell (by simp [cnt, mrk])
                    have m7 : (W6.setCell ⟨bb, 0, none⟩ (.int .i64 ((pre.length : Int) + 1))).cell? ⟨w.heap.size, 0, none⟩ = some (.int .i64 many) := by
                      have h := (set_other (w := W6) (p := ⟨bb, 0, none⟩) (v := .int .i64 ((pre.length : Int) + 1)) (b := w.heap.size) (by show w.heap.size ≠ bb; omega)).trans (MANYC.out W6 B6.out)
                      rw [cell_of_row _ _ _ _ _ _ h]; rfl
                    clear b6
                    gi_wp2_with fail
                    exact owe (id := 8) (full := True) (a := ⟨#[], []⟩) HI.out B6.out (by omega) (by omega) (by simp [cnt, mrk]; omega) (HKP.out W6 B6.out) (.inl rfl)

                  case hend =>
                    rintro D2_1 nb1 Wb1 hD2_1 hfb1 KB
                    have KD : KInv wr [cnt cb 0, cnt ab (na1 : Int), mrk D1_1, cnt bb (nb1 : Int), mrk D2_1, cnt tb 1, mrk D1_0, mrk D2_0, mrk D3_0] Wb1.heap.size Wb1 := (KB.sub (by simp [cnt, mrk])).low (Nat.le_refl _)
                    have hDb1 : D2_1 < Wb1.heap.size := KD.lt (x := mrk D2_1) (by simp [cnt, mrk])
                    have hWb1 : Wa1.heap.size ≤ Wb1.heap.size := KB.2.2
                    clear KB
                    dsimp only
                    go_wp2_with fail

                    refine (wpIn_wide (n := 3)).1 ?_
                    refine loop_ev ?b3 True wr cb [cnt ab (na1 : Int), mrk D1_1, cnt bb (nb1 : Int), mrk D2_1, cnt tb 1, mrk D1_0, mrk D2_0, mrk D3_0] rfl HT.out.evs ((KD.1.block _ (Array.getElem?_eq_some_iff.1 EE1.out).1).trans EE1.out) (row_stays EE2.out fun b h' => KD.1.block b (EE2.out.lt b h').2) KD ?assign ?body ?hend
                    case assign =>
                      intro l x W K hK
                      have HK := Lib.hid hK
                      clear hK
                      simp only [encE, List.zip_toArray, List.zip_cons_cons, List.zip_nil_right, List.foldl_toArray, List.foldl_cons, List.foldl_nil, List.setIfInBounds_toArray, List.set_cons_succ, List.set_cons_zero]
                      gi_wp2
                      obtain ⟨D, hD⟩ : ∃ D, W.heap.size = D := ⟨_, rfl⟩
                      have HK' := HK.out D hD
                      rw [hD]
                      exact HK'
                    case body =>
                      rintro l pre x D W hI hbx hDW hxe hlt
                      have hevs : N.abs.evs = RN.evs := HPP.out.sim.evs
                      have hbW := hI.1
                      have RW := RE.out.below hbW
                      rw [hevs] at hlt hxe
                      obtain ⟨g0, c0, hve⟩ := slice_box RW.e (by omega)
                      have ea := HA3.out
                      rw [hve] at ea
                      simp only [Value.slice.injEq] at ea
                      obtain ⟨ea1, ea2, ea3⟩ := ea
                      have re := RW.e
                      rw [hve] at re
                      have hgl : g0 < W.heap.size := (re.lt g0 rfl).2
                      obtain ⟨E0, E1, E2⟩ := ev_at re hlt rfl
                      have a3e : a3 = some ⟨g0, 0, none⟩ := ea1.symm
                      have hpn : pre.length < n3 := by rw [← ea2]; exact hlt
                      have NETC : Hid (∀ ww, Below W.heap.size W ww → ww.cell? ⟨wB.heap.size + 1, 0, none⟩ = some (.slice a1 n1 k1) ∧ ww.cell? ⟨wB.heap.size + 1, 1, none⟩ = some (.slice a2 n2 k2) ∧ ww.cell? ⟨wB.heap.size + 1, 2, none⟩ = some (.slice (some ⟨g0, 0, none⟩) n3 k3) ∧ ww.cell? ⟨wB.heap.size + 1, 3, none⟩ = some (.slice a4 n4 k4)) := Lib.hid fun ww hww => by
                        have h := ((hbW.trans (hww.mono hbW.size)).block _ (Array.getElem?_eq_some_iff.1 XR.out).1).trans XR.out
                        rw [a3e] at h
                        obtain ⟨r0, r1, r2, r3, -⟩ := cells4 h
                        exact ⟨r0, r1, r2, r3⟩
                      have CNTC : Hid (∀ ww, Below W.heap.size W ww → ww.cell? ⟨cb, 0, none⟩ = some (.int .i64 (pre.length : Int))) := Lib.hid fun ww hww => (hI.below hww).cell (List.mem_cons_self ..)
                      obtain ⟨ev, hev⟩ : ∃ ev, evAt RN.evs pre.length = ev := ⟨_, rfl⟩
                      rw [hev] at hxe E0 E1 E2
                      subst hxe
                      dsimp only at hbx
                      have BOXC : Hid (∀ ww, Below W.heap.size W ww → ww.cell? ⟨D, 0, none⟩ = some (.int .i64 ev.kind) ∧ ww.cell? ⟨D, 1, none⟩ = some (.int .i64 ev.id) ∧ ww.cell? ⟨D, 2, none⟩ = some (.int .i64 ev.frm)) := Lib.hid fun ww hww => by
                        have h := (hww.block _ (Array.getElem?_eq_some_iff.1 hbx).1).trans hbx
                        exact ⟨by rw [cell_of_row _ _ _ _ _ _ h]; rfl, by rw [cell_of_row _ _ _ _ _ _ h]; rfl, by rw [cell_of_row _ _ _ _ _ _ h]; rfl⟩
                      have ROWC : Hid (∀ ww, Below W.heap.size W ww → ww.cell? ⟨g0, pre.length * 3, none⟩ = some (.int .i64 ev.kind) ∧ ww.cell? ⟨g0, pre.length * 3 + 1, none⟩ = some (.int .i64 ev.id) ∧ ww.cell? ⟨g0, pre.length * 3 + 2, none⟩ = some (.int .i64 ev.frm)) := Lib.hid fun ww hww =>
                        ⟨bcells hww hgl E0, bcells hww hgl E1, bcells hww hgl E2⟩
                      have hge1 : decide ((pre.length : Int) ≥ (n3 : Int)) = false := by simp; omega
                      have hge2 : decide (n3 ≤ pre.length) = false := by simp; omega
                      have hnl2 : n3 ≤ 1000000 := by rw [← ea2]; exact HSM.out.evs
                      have hpl : pre.length ≤ 1000000 := by omega
                      have HKP : Hid (∀ W6, Below W.heap.size W W6 → KpR v3.ownBlock W (W6.setCell ⟨cb, 0, none⟩ (.int .i64 ((pre.length : Int) + 1)))) := Lib.hid fun W6 hb => kpr_put hb fun k hk => ⟨by have h1 := HVE.out k hk; have h2 := hbW.size; omega, by have h1 := HVE.out k hk; omega⟩
                      have MANYC : Hid (∀ ww, Below W.heap.size W ww → ww.heap[w.heap.size]? = some (.cells #[.int .i64 many] 3 (0, 0))) := Lib.hid fun ww hww =>
                        ((hI.1.trans (hww.mono hI.1.size)).block _ (Array.getElem?_eq_some_iff.1 XM.out).1).trans XM.out
                      have HI := Lib.hid hI
                      have hwm : w.heap.size < cb := by have := (Array.getElem?_eq_some_iff.1 XM.out).1; omega
                      clear hI hbx hDW E0 E1 E2 hve ea1 ea2 ea3 re RW hbW hgl hlt hev hevs a3e
                      gi_wp2_with fail
                      refine wpIn_region_grow (by kernel_rfl) (by kernel_rfl) (by kernel_rfl) ?_
                      (refine grow_step rfl ?_; apply Exists.intro; refine ⟨fun ww hww => ?_, ?_⟩; (focus (unfold calmAt calmUpon; go_simp; first | rfl | exact ⟨rfl, hww⟩)); (simp only [Act.put, List.setIfInBounds_toArray, List.set_cons_succ, List.set_cons_zero]))
                      (refine grow_step rfl ?_; apply Exists.intro; refine ⟨fun ww hww => ?_, ?_⟩; (focus (have cc := CNTC.out ww hww; unfold calmAt calmUpon; go_simp; first | rfl | exact ⟨rfl, hww⟩)); (simp only [Act.put, List.setIfInBounds_toArray, List.set_cons_succ, List.set_cons_zero]))
                      iterate 2 (refine grow_step rfl ?_; apply Exists.intro; refine ⟨fun ww hww => ?_, ?_⟩; (focus (unfold calmAt calmUpon; go_simp; first | rfl | exact ⟨rfl, hww⟩)); (simp only [Act.put, List.setIfInBounds_toArray, List.set_cons_succ, List.set_cons_zero]))
                      (refine grow_step rfl ?_; apply Exists.intro; refine ⟨fun ww hww => ?_, ?_⟩; (focus (have cc := CNTC.out ww hww; unfold calmAt calmUpon; go_simp; first | rfl | exact ⟨rfl, hww⟩)); (simp only [Act.put, List.setIfInBounds_toArray, List.set_cons_succ, List.set_cons_zero]))
                      (refine grow_step rfl ?_; apply Exists.intro; refine ⟨fun ww hww => ?_, ?_⟩; (focus (unfold calmAt calmUpon; go_simp; first | rfl | exact ⟨rfl, hww⟩)); (simp only [Act.put, List.setIfInBounds_toArray, List.set_cons_succ, List.set_cons_zero]))
                      (refine grow_step rfl ?_; apply Exists.intro; refine ⟨fun ww hww => ?_, ?_⟩; (focus (have cc := NETC.out ww hww; unfold calmAt calmUpon; go_simp; first | rfl | exact ⟨rfl, hww⟩)); (simp only [Act.put, List.setIfInBounds_toArray, List.set_cons_succ, List.set_cons_zero]))
                      iterate 4 (refine grow_step rfl ?_; apply Exists.intro; refine ⟨fun ww hww => ?_, ?_⟩; (focus (unfold calmAt calmUpon; go_simp; first | rfl | exact ⟨rfl, hww⟩)); (simp only [Act.put, List.setIfInBounds_toArray, List.set_cons_succ, List.set_cons_zero]))
                      (refine grow_step rfl ?_; apply Exists.intro; refine ⟨fun ww hww => ?_, ?_⟩; (focus (have cc := BOXC.out ww hww; unfold calmAt calmUpon; go_simp; first | rfl | exact ⟨rfl, hww⟩)); (simp only [Act.put, List.setIfInBounds_toArray, List.set_cons_succ, List.set_cons_zero]))
                      (refine grow_step rfl ?_; apply Exists.intro; refine ⟨fun ww hww => ?_, ?_⟩; (focus (unfold calmAt calmUpon; go_simp; first | rfl | exact ⟨rfl, hww⟩)); (simp only [Act.put, List.setIfInBounds_toArray, List.set_cons_succ, List.set_cons_zero]))
                      (refine grow_step rfl ?_; apply Exists.intro; refine ⟨fun ww hww => ?_, ?_⟩; (focus (have cc := NETC.out ww hww; unfold calmAt calmUpon; go_simp; first | rfl | exact ⟨rfl, hww⟩)); (simp only [Act.put, List.setIfInBounds_toArray, List.set_cons_succ, List.set_cons_zero]))
                      (refine grow_step rfl ?_; apply Exists.intro; refine ⟨fun ww hww => ?_, ?_⟩; (focus (have cc := CNTC.out ww hww; unfold calmAt calmUpon; go_simp; first | rfl | exact ⟨rfl, hww⟩)); (simp only [Act.put, List.setIfInBounds_toArray, List.set_cons_succ, List.set_cons_zero]))
                      (refine grow_step rfl ?_; apply Exists.intro; refine ⟨fun ww hww => ?_, ?_⟩; (focus (unfold calmAt calmUpon; go_simp; first | rfl | exact ⟨rfl, hww⟩)); (simp only [Act.put, List.setIfInBounds_toArray, List.set_cons_succ, List.set_cons_zero]))
                      (refine grow_step rfl ?_; apply Exists.intro; refine ⟨fun ww hww => ?_, ?_⟩; (focus (have cc := ROWC.out ww hww; unfold calmAt calmUpon; go_simp; first | rfl | exact ⟨rfl, hww⟩)); (simp only [Act.put, List.setIfInBounds_toArray, List.set_cons_succ, List.set_cons_zero]))
                      iterate 2 (refine grow_step rfl ?_; apply Exists.intro; refine ⟨fun ww hww => ?_, ?_⟩; (focus (unfold calmAt calmUpon; go_simp; first | rfl | exact ⟨rfl, hww⟩)); (simp only [Act.put, List.setIfInBounds_toArray, List.set_cons_succ, List.set_cons_zero]))
                      refine calm_nil ?_
                      intro W6 b6
                      have B6 := Lib.hid b6
                      have K6 := Lib.hid (HI.out.below b6)
                      have c6 := K6.out.cell (List.mem_cons_self ..)
                      have f6 := K6.out.fz (List.mem_cons_self ..)
                      have hp1 : (-9223372036854775808 : Int) ≤ (pre.length : Int) + 1 := by omega
                      have hp2 : (pre.length : Int) + 1 ≤ 9223372036854775807 := by omega
                      have K7 := Lib.hid (K6.out.put (by omega) (by simp [cnt, mrk]; omega) ((pre.length : Int) + 1))
                      have c7 := K7.out.cell (List.mem_cons_self ..)
                      have t7 : (W6.setCell ⟨cb, 0, none⟩ (.int .i64 ((pre.length : Int) + 1))).cell? ⟨tb, 0, none⟩ = some (.int .i64 1) := K7.out.cell (by simp [cnt, mrk])
                      have m7 : (W6.setCell ⟨cb, 0, none⟩ (.int .i64 ((pre.length : Int) + 1))).cell? ⟨w.heap.size, 0, none⟩ = some (.int .i64 many) := by
                        have h := (set_other (w := W6) (p := ⟨cb, 0, none⟩) (v := .int .i64 ((pre.length : Int) + 1)) (b := w.heap.size) (by show w.heap.size ≠ cb; omega)).trans (MANYC.out W6 B6.out)
                        rw [cell_of_row _ _ _ _ _ _ h]; rfl
                      clear b6
                      gi_wp2_with fail
                      exact owe (id := 10) (full := True) (a := ⟨#[], []⟩) HI.out B6.out (by omega) (by omega) (by simp [cnt, mrk]; omega) (HKP.out W6 B6.out) (.inl rfl)

                    case hend =>
                      rintro D3_1 nc1 Wc1 hD3_1 hfc1 KE
                      have hWc1 : Wb1.heap.size ≤ Wc1.heap.size := KE.2.2
                      have TBC1 : Hid (∀ ww, Below Wc1.heap.size Wc1 ww → ww.cell? ⟨tb, 0, none⟩ = some (.int .i64 1)) := Lib.hid fun ww hww => (KE.below hww).cell (by simp [cnt, mrk])
                      have HKE1 := Lib.hid KE
                      clear KE
                      dsimp only
                      go_wp2_with fail
                      have HMARKS := Lib.hid (show True from trivial)
                      have CA : Hid (∀ ww, Below Wc1.heap.size Wc1 ww → ww.cell? ⟨ab, 0, none⟩ = some (.int .i64 (countL RN.all : Nat))) := Lib.hid fun ww hww => by
                        have h := (HKE1.out.below hww).cell (c := ab) (n := (na1 : Int)) (by simp [cnt, mrk])
                        have hcnt : (N.abs.fl.length : Int) = (countL RN.all : Nat) := by rw [HPP.out.sim.count, count_abs]
                        rw [hfa1 trivial, HLN.out.2, hcnt] at h
                        exact h
                      have CB : Hid (∀ ww, Below Wc1.heap.size Wc1 ww → ww.cell? ⟨bb, 0, none⟩ = some (.int .i64 (n2 : Nat))) := Lib.hid fun ww hww => by
                        have h := (HKE1.out.below hww).cell (c := bb) (n := (nb1 : Int)) (by simp [cnt, mrk])
                        have e : N.hist.length = n2 := by
                          have h1 : N.abs.hist.length = RN.hist.length := by rw [HPP.out.sim.hist]; simp [RNet.abs]
                          rw [abs_hist] at h1
                          obtain ⟨a, c, hh⟩ := row_slice HRK.out.h
                          rw [HA2r.out] at hh; cases hh; exact h1
                        rw [hfb1 trivial, e] at h
                        exact h
                      have CC : Hid (∀ ww, Below Wc1.heap.size Wc1 ww → ww.cell? ⟨cb, 0, none⟩ = some (.int .i64 (n3 : Nat))) := Lib.hid fun ww hww => by
                        have h := (HKE1.out.below hww).cell (c := cb) (n := (nc1 : Int)) (by simp [cnt, mrk])
                        have e : N.abs.evs.length = n3 := by
                          have h1 : N.abs.evs.length = RN.evs.length := by rw [HPP.out.sim.evs]; rfl
                          obtain ⟨a, c, hh⟩ := row_slice HRK.out.e
                          rw [HA3.out] at hh; cases hh; exact h1
                        rw [hfc1 trivial, e] at h
                        exact h
                      have NETC : Hid (∀ ww, Below Wc1.heap.size Wc1 ww → ww.cell? ⟨wB.heap.size + 1, 0, none⟩ = some (.slice a1 n1 k1) ∧ ww.cell? ⟨wB.heap.size + 1, 1, none⟩ = some (.slice a2 n2 k2) ∧ ww.cell? ⟨wB.heap.size + 1, 2, none⟩ = some (.slice a3 n3 k3) ∧ ww.cell? ⟨wB.heap.size + 1, 3, none⟩ = some (.slice a4 n4 k4)) := Lib.hid fun ww hww => by
                        have h := (((HKE1.out.below hww).1).block _ (Array.getElem?_eq_some_iff.1 XR.out).1).trans XR.out
                        obtain ⟨r0, r1, r2, r3, -⟩ := cells4 h
                        exact ⟨r0, r1, r2, r3⟩
                      have CALL : Hid (∀ ww, Below Wc1.heap.size Wc1 ww → Calls Try.prog 30 #[.agg #[.slice a1 n1 k1, .slice a2 n2 k2, .slice a3 n3 k3, .slice a4 n4 k4]] ww fun e w' => e = .returned (.int .i64 (countL RN.all : Nat)) ∧ Below ww.heap.size ww w') := Lib.hid fun ww hww => by
                        have h := count_any RN ww (RE.out.below (HKE1.out.below hww).1) HSM.out
                        rw [HVAL.out] at h
                        exact h
                      generalize countL RN.all = cn at CA CALL
                      refine wp_region_grow (by kernel_rfl) (by kernel_rfl) ?_
                      (refine grow_step rfl ?_; apply Exists.intro; refine ⟨fun ww hww => ?_, ?_⟩; (focus (have cc := TBC1.out ww hww; unfold calmAt calmUpon; go_simp; first | rfl | exact ⟨rfl, hww⟩)); (simp only [Act.put, List.setIfInBounds_toArray, List.set_cons_succ, List.set_cons_zero]))
                      iterate 2 (refine grow_step rfl ?_; apply Exists.intro; refine ⟨fun ww hww => ?_, ?_⟩; (focus (unfold calmAt calmUpon; go_simp; first | rfl | exact ⟨rfl, hww⟩)); (simp only [Act.put, List.setIfInBounds_toArray, List.set_cons_succ, List.set_cons_zero]))
                      (refine grow_step rfl ?_; apply Exists.intro; refine ⟨fun ww hww => ?_, ?_⟩; (focus (have cc := CA.out ww hww; unfold calmAt calmUpon; go_simp; first | rfl | exact ⟨rfl, hww⟩)); (simp only [Act.put, List.setIfInBounds_toArray, List.set_cons_succ, List.set_cons_zero]))
                      (refine grow_step rfl ?_; apply Exists.intro; refine ⟨fun ww hww => ?_, ?_⟩; (focus (have cc := NETC.out ww hww; unfold calmAt calmUpon; go_simp; first | rfl | exact ⟨rfl, hww⟩)); (simp only [Act.put, List.setIfInBounds_toArray, List.set_cons_succ, List.set_cons_zero]))
                      (refine grow_step rfl ?_; apply Exists.intro; refine ⟨fun ww hww => ?_, ?_⟩; (focus (unfold calmAt calmUpon; go_simp; refine (CALL.out ww hww).mono ?_; rintro e w1 ⟨rfl, hb1⟩; exact ⟨rfl, hww.trans (hb1.mono hww.size)⟩)); (simp only [Act.put, List.setIfInBounds_toArray, List.set_cons_succ, List.set_cons_zero]))
                      iterate 2 (refine grow_step rfl ?_; apply Exists.intro; refine ⟨fun ww hww => ?_, ?_⟩; (focus (unfold calmAt calmUpon; go_simp; first | rfl | exact ⟨rfl, hww⟩)); (simp only [Act.put, List.setIfInBounds_toArray, List.set_cons_succ, List.set_cons_zero]))
                      (refine grow_step rfl ?_; apply Exists.intro; refine ⟨fun ww hww => ?_, ?_⟩; (focus (have cc := CB.out ww hww; unfold calmAt calmUpon; go_simp; first | rfl | exact ⟨rfl, hww⟩)); (simp only [Act.put, List.setIfInBounds_toArray, List.set_cons_succ, List.set_cons_zero]))
                      (refine grow_step rfl ?_; apply Exists.intro; refine ⟨fun ww hww => ?_, ?_⟩; (focus (unfold calmAt calmUpon; go_simp; first | rfl | exact ⟨rfl, hww⟩)); (simp only [Act.put, List.setIfInBounds_toArray, List.set_cons_succ, List.set_cons_zero]))
                      (refine grow_step rfl ?_; apply Exists.intro; refine ⟨fun ww hww => ?_, ?_⟩; (focus (have cc := NETC.out ww hww; unfold calmAt calmUpon; go_simp; first | rfl | exact ⟨rfl, hww⟩)); (simp only [Act.put, List.setIfInBounds_toArray, List.set_cons_succ, List.set_cons_zero]))
                      iterate 4 (refine grow_step rfl ?_; apply Exists.intro; refine ⟨fun ww hww => ?_, ?_⟩; (focus (unfold calmAt calmUpon; go_simp; first | rfl | exact ⟨rfl, hww⟩)); (simp only [Act.put, List.setIfInBounds_toArray, List.set_cons_succ, List.set_cons_zero]))
                      (refine grow_step rfl ?_; apply Exists.intro; refine ⟨fun ww hww => ?_, ?_⟩; (focus (have cc := CC.out ww hww; unfold calmAt calmUpon; go_simp; first | rfl | exact ⟨rfl, hww⟩)); (simp only [Act.put, List.setIfInBounds_toArray, List.set_cons_succ, List.set_cons_zero]))
                      (refine grow_step rfl ?_; apply Exists.intro; refine ⟨fun ww hww => ?_, ?_⟩; (focus (unfold calmAt calmUpon; go_simp; first | rfl | exact ⟨rfl, hww⟩)); (simp only [Act.put, List.setIfInBounds_toArray, List.set_cons_succ, List.set_cons_zero]))
                      (refine grow_step rfl ?_; apply Exists.intro; refine ⟨fun ww hww => ?_, ?_⟩; (focus (have cc := NETC.out ww hww; unfold calmAt calmUpon; go_simp; first | rfl | exact ⟨rfl, hww⟩)); (simp only [Act.put, List.setIfInBounds_toArray, List.set_cons_succ, List.set_cons_zero]))
                      iterate 4 (refine grow_step rfl ?_; apply Exists.intro; refine ⟨fun ww hww => ?_, ?_⟩; (focus (unfold calmAt calmUpon; go_simp; first | rfl | exact ⟨rfl, hww⟩)); (simp only [Act.put, List.setIfInBounds_toArray, List.set_cons_succ, List.set_cons_zero]))
                      refine calm_nil ?_
                      intro W6 b6
                      have L6 := Lib.hid (HKE1.out.below b6)
                      have t6 : W6.cell? ⟨tb, 0, none⟩ = some (.int .i64 1) := L6.out.cell (by simp [cnt, mrk])
                      clear b6
                      go_wp2_with fail
                      rw [rounds_succ]
                      go_wp2_with fail
                      refine (known_any _).mono ?_
                      rintro e W7 ⟨rfl, hb7⟩
                      have L7 := (L6.out.below ((Below.refl _ _).alloc (Nat.le_refl _) _)).below hb7
                      have xq : W7.heap[w.heap.size + 1]? = some (.cells #[.bool false] 4 (0, 0)) := (L7.1.block _ (Array.getElem?_eq_some_iff.1 XQ.out).1).trans XQ.out
                      have g0 := frozen_blk xq 0
                      have m1 : W7.cell? ⟨w.heap.size + 1, 0, none⟩ = some (.bool false) := by rw [cell_of_row _ _ _ _ _ _ xq]; rfl
                      have hwq : w.heap.size + 1 < wr.heap.size := (Array.getElem?_eq_some_iff.1 XQ.out).1
                      have HXQ := Lib.hid xq
                      have HL7 := Lib.hid L7
                      clear xq L7 hb7
                      go_wp2_with fail
                      obtain ⟨U0, hU0⟩ : ∃ U0, U0 = W7.setCell ⟨w.heap.size + 1, 0, none⟩ (.bool true) := ⟨_, rfl⟩
                      rw [← hU0]
                      have r0 : D3_1 ≠ w.heap.size + 1 := by omega
                      have d0_0 : U0.heap[D3_1]? = some (.deferred (some [])) := by rw [hU0, set_other r0]; exact HL7.out.2.1 (mrk D3_1) (by simp [cnt, mrk])
                      have r1 : D2_1 ≠ w.heap.size + 1 := by omega
                      have d0_1 : U0.heap[D2_1]? = some (.deferred (some [])) := by rw [hU0, set_other r1]; exact HL7.out.2.1 (mrk D2_1) (by simp [cnt, mrk])
                      have r2 : D1_1 ≠ w.heap.size + 1 := by omega
                      have d0_2 : U0.heap[D1_1]? = some (.deferred (some [])) := by rw [hU0, set_other r2]; exact HL7.out.2.1 (mrk D1_1) (by simp [cnt, mrk])
                      have r3 : D3_0 ≠ w.heap.size + 1 := by omega
                      have d0_3 : U0.heap[D3_0]? = some (.deferred (some [])) := by rw [hU0, set_other r3]; exact HL7.out.2.1 (mrk D3_0) (by simp [cnt, mrk])
                      have r4 : D2_0 ≠ w.heap.size + 1 := by omega
                      have d0_4 : U0.heap[D2_0]? = some (.deferred (some [])) := by rw [hU0, set_other r4]; exact HL7.out.2.1 (mrk D2_0) (by simp [cnt, mrk])
                      have r5 : D1_0 ≠ w.heap.size + 1 := by omega
                      have d0_5 : U0.heap[D1_0]? = some (.deferred (some [])) := by rw [hU0, set_other r5]; exact HL7.out.2.1 (mrk D1_0) (by simp [cnt, mrk])
                      have v0 : U0.heap[w.heap.size + 1]? = some (.cells #[.bool true] 4 (0, 0)) := by rw [hU0]; exact set_at HXQ.out
                      have bw0 : Below w.heap.size w U0 := by
                        rw [hU0]
                        exact (LOWE.out.trans (HL7.out.1.mono LOWE.out.size)).setCell (p := ⟨_, _, _⟩) (by show w.heap.size ≤ w.heap.size + 1; omega) _
                      clear hU0
                      obtain ⟨U1, hU1⟩ : ∃ U, U = U0.putObj D3_1 (.deferred none) := ⟨_, rfl⟩
                      have d1_1 : U1.heap[D2_1]? = some (.deferred (some [])) := by rw [hU1]; exact (World.putObj_heap_other (by omega)).trans d0_1
                      have d1_2 : U1.heap[D1_1]? = some (.deferred (some [])) := by rw [hU1]; exact (World.putObj_heap_other (by omega)).trans d0_2
                      have d1_3 : U1.heap[D3_0]? = some (.deferred (some [])) := by rw [hU1]; exact (World.putObj_heap_other (by omega)).trans d0_3
                      have d1_4 : U1.heap[D2_0]? = some (.deferred (some [])) := by rw [hU1]; exact (World.putObj_heap_other (by omega)).trans d0_4
                      have d1_5 : U1.heap[D1_0]? = some (.deferred (some [])) := by rw [hU1]; exact (World.putObj_heap_other (by omega)).trans d0_5
                      have v1 : U1.heap[w.heap.size + 1]? = some (.cells #[.bool true] 4 (0, 0)) := by rw [hU1]; exact (World.putObj_heap_other (Ne.symm r0)).trans v0
                      have bw1 : Below w.heap.size w U1 := by rw [hU1]; exact bw0.trans (belowK_b (w := w) (Nat.le_refl _) _ D3_1 _ _ (by omega) d0_0 rfl rfl)
                      obtain ⟨U2, hU2⟩ : ∃ U, U = U1.putObj D2_1 (.deferred none) := ⟨_, rfl⟩
                      have d2_2 : U2.heap[D1_1]? = some (.deferred (some [])) := by rw [hU2]; exact (World.putObj_heap_other (by omega)).trans d1_2
                      have d2_3 : U2.heap[D3_0]? = some (.deferred (some [])) := by rw [hU2]; exact (World.putObj_heap_other (by omega)).trans d1_3
                      have d2_4 : U2.heap[D2_0]? = some (.deferred (some [])) := by rw [hU2]; exact (World.putObj_heap_other (by omega)).trans d1_4
                      have d2_5 : U2.heap[D1_0]? = some (.deferred (some [])) := by rw [hU2]; exact (World.putObj_heap_other (by omega)).trans d1_5
                      have v2 : U2.heap[w.heap.size + 1]? = some (.cells #[.bool true] 4 (0, 0)) := by rw [hU2]; exact (World.putObj_heap_other (Ne.symm r1)).trans v1
                      have bw2 : Below w.heap.size w U2 := by rw [hU2]; exact bw1.trans (belowK_b (w := w) (Nat.le_refl _) _ D2_1 _ _ (by omega) d1_1 rfl rfl)
                      obtain ⟨U3, hU3⟩ : ∃ U, U = U2.putObj D1_1 (.deferred none) := ⟨_, rfl⟩
                      have d3_3 : U3.heap[D3_0]? = some (.deferred (some [])) := by rw [hU3]; exact (World.putObj_heap_other (by omega)).trans d2_3
                      have d3_4 : U3.heap[D2_0]? = some (.deferred (some [])) := by rw [hU3]; exact (World.putObj_heap_other (by omega)).trans d2_4
                      have d3_5 : U3.heap[D1_0]? = some (.deferred (some [])) := by rw [hU3]; exact (World.putObj_heap_other (by omega)).trans d2_5
                      have v3 : U3.heap[w.heap.size + 1]? = some (.cells #[.bool true] 4 (0, 0)) := by rw [hU3]; exact (World.putObj_heap_other (Ne.symm r2)).trans v2
                      have bw3 : Below w.heap.size w U3 := by rw [hU3]; exact bw2.trans (belowK_b (w := w) (Nat.le_refl _) _ D1_1 _ _ (by omega) d2_2 rfl rfl)
                      obtain ⟨U4, hU4⟩ : ∃ U, U = U3.putObj D3_0 (.deferred none) := ⟨_, rfl⟩
                      have d4_4 : U4.heap[D2_0]? = some (.deferred (some [])) := by rw [hU4]; exact (World.putObj_heap_other (by omega)).trans d3_4
                      have d4_5 : U4.heap[D1_0]? = some (.deferred (some [])) := by rw [hU4]; exact (World.putObj_heap_other (by omega)).trans d3_5
                      have v4 : U4.heap[w.heap.size + 1]? = some (.cells #[.bool true] 4 (0, 0)) := by rw [hU4]; exact (World.putObj_heap_other (Ne.symm r3)).trans v3
                      have bw4 : Below w.heap.size w U4 := by rw [hU4]; exact bw3.trans (belowK_b (w := w) (Nat.le_refl _) _ D3_0 _ _ (by omega) d3_3 rfl rfl)
                      obtain ⟨U5, hU5⟩ : ∃ U, U = U4.putObj D2_0 (.deferred none) := ⟨_, rfl⟩
                      have d5_5 : U5.heap[D1_0]? = some (.deferred (some [])) := by rw [hU5]; exact (World.putObj_heap_other (by omega)).trans d4_5
                      have v5 : U5.heap[w.heap.size + 1]? = some (.cells #[.bool true] 4 (0, 0)) := by rw [hU5]; exact (World.putObj_heap_other (Ne.symm r4)).trans v4
                      have bw5 : Below w.heap.size w U5 := by rw [hU5]; exact bw4.trans (belowK_b (w := w) (Nat.le_refl _) _ D2_0 _ _ (by omega) d4_4 rfl rfl)
                      obtain ⟨U6, hU6⟩ : ∃ U, U = U5.putObj D1_0 (.deferred none) := ⟨_, rfl⟩
                      have v6 : U6.heap[w.heap.size + 1]? = some (.cells #[.bool true] 4 (0, 0)) := by rw [hU6]; exact (World.putObj_heap_other (Ne.symm r5)).trans v5
                      have bw6 : Below w.heap.size w U6 := by rw [hU6]; exact bw5.trans (belowK_b (w := w) (Nat.le_refl _) _ D1_0 _ _ (by omega) d5_5 rfl rfl)
                      have f0 : U6.cell? ⟨w.heap.size + 1, 0, none⟩ = some (.bool true) := by rw [cell_of_row _ _ _ _ _ _ v6]; rfl
                      refine ⟨by simp, .inl ⟨_, _, rfl, run_takeDeferred d0_0, ?_⟩⟩
                      rw [← hU1]
                      refine ⟨by simp, .inl ⟨_, _, rfl, run_takeDeferred d1_1, ?_⟩⟩
                      rw [← hU2]
                      refine ⟨by simp, .inl ⟨_, _, rfl, run_takeDeferred d2_2, ?_⟩⟩
                      rw [← hU3]
                      refine ⟨by simp, .inl ⟨_, _, rfl, run_takeDeferred d3_3, ?_⟩⟩
                      rw [← hU4]
                      refine ⟨by simp, .inl ⟨_, _, rfl, run_takeDeferred d4_4, ?_⟩⟩
                      rw [← hU5]
                      refine ⟨by simp, .inl ⟨_, _, rfl, run_takeDeferred d5_5, ?_⟩⟩
                      rw [← hU6]
                      exact ⟨.bool true, by simp [results, Try.results7, go_sem, f0], rfl, bw6⟩



end Go.Proofs.Ytiindnmelegkgaa.networkLoops
