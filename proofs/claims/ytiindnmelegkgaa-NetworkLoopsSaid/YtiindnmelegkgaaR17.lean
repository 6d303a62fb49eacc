/- The reference's Deliver: a packet is delivered. -/
import Derived.Test.YtiindnmelegkgaaR13
section
namespace Go.Proofs.Ytiindnmelegkgaa
open Go.RowKit
set_option linter.unusedSimpArgs false
set_option linter.unusedVariables false

/-- After own, a change, noted. -/
theorem mod_end2 {w Wf W1 W3 W4 W5 : World} {N N1 N2 N3 : RNet} {ev : Ev} (R : ROk w N) (bf : Below w.heap.size w Wf) (O : ROwned Wf W1 N N1) (h1 : N2.va = N1.va) (h2 : N2.vh = N1.vh) (h3 : N2.ve = N1.ve) (h4 : N2.vb = N1.vb) (h5 : N2.hist = N1.hist)
    (h6 : ∀ x ∈ N2.all, ∃ y ∈ N1.all, x.p.bv = y.p.bv) (b3 : Below w.heap.size W1 W3) (T : RNoted W3 W4 N2 ev N3) (k5 : ∀ b, b < W4.heap.size → (b < w.heap.size ∨ Wf.heap.size ≤ b) → W5.heap[b]? = W4.heap[b]?) (b5 : Below w.heap.size W4 W5) : RNext w W5 N N3 := by
  obtain ⟨R4, e1, e2, e3, e4, e5, e6, e7, e8, g4⟩ := T
  have zf := bf.size
  have z1 := O.below.size
  have z3 := b3.size
  have blocks : ∀ b, RB N3 b → (RB N b ∨ w.heap.size ≤ b) ∧ (b < w.heap.size ∨ Wf.heap.size ≤ b) := fun b hb => by
    have old : RB N b → (b < w.heap.size ∨ Wf.heap.size ≤ b) := fun h => .inl (R.lt h)
    rcases hb with h | h | h | h | ⟨x, hx, h⟩ | ⟨x, hx, h⟩
    · rw [e5, h1] at h
      have := O.fa b h; exact ⟨.inr (by omega), by omega⟩
    · rw [e6, h2, O.vh] at h
      have h' : RB N b := .inr (.inl h)
      exact ⟨.inl h', old h'⟩
    · rcases e8 b h with h' | h'
      · rw [h3] at h'; have := O.fe b h'; exact ⟨.inr (by omega), by omega⟩
      · exact ⟨.inr (by omega), by omega⟩
    · rw [e7, h4, O.vb] at h
      have h' : RB N b := .inr (.inr (.inr (.inl h)))
      exact ⟨.inl h', old h'⟩
    · rw [e1] at hx
      obtain ⟨y, hy, e⟩ := h6 x hx
      rw [e] at h
      have := O.fb y hy b h; exact ⟨.inr (by omega), by omega⟩
    · rw [e2, h5, O.hist] at hx
      have h' : RB N b := .inr (.inr (.inr (.inr (.inr ⟨x, hx, h⟩))))
      exact ⟨.inl h', old h'⟩
  have b1 : Below w.heap.size w W3 := (bf.trans (O.below.mono (by omega))).trans b3
  have b4 : Below w.heap.size w W4 := b1.grown g4 (by omega) (fun k e => by rw [h3] at e; have := O.fe k e; omega)
  exact ⟨R4.stays fun b hb => k5 b (R4.lt hb) (blocks b hb).2, b4.trans b5, fun b hb => (blocks b hb).1⟩

theorem mod_out2 {w Wf W1 W3 W4 W5 : World} {N N1 N3 : RNet} {k : Nat} {x x1 x' : RFl} {f : RA → RA} {kind : Int} (R : ROk w N) (bf : Below w.heap.size w Wf) (O : ROwned Wf W1 N N1) (hx : N.all[k]? = some x) (hx1 : N1.all[k]? = some x1) (hbv : x'.p.bv = x1.p.bv) (hf : x'.abs = f x1.abs)
    (b3 : Below w.heap.size W1 W3) (T : RNoted W3 W4 { N1 with all := N1.all.set k x' } ⟨kind, (k : Nat), -1⟩ N3) (k5 : ∀ b, b < W4.heap.size → (b < w.heap.size ∨ Wf.heap.size ≤ b) → W5.heap[b]? = W4.heap[b]?) (b5 : Below w.heap.size W4 W5) :
    RNext w W5 N N3 ∧ N3.abs = N.abs.setAt (k : Nat) f kind := by
  refine ⟨mod_end2 (N2 := { N1 with all := N1.all.set k x' }) R bf O rfl rfl rfl rfl rfl (fun y hy => ?_) b3 T k5 b5, setAt_abs (N2 := { N1 with all := N1.all.set k x' }) O hx hx1 rfl hf rfl rfl rfl T⟩
  rcases List.mem_or_eq_of_mem_set hy with h | h
  · exact ⟨y, h, rfl⟩
  · exact ⟨x1, List.mem_of_getElem? hx1, by rw [h]; exact hbv⟩

set_option maxHeartbeats 2000000 in
set_option maxRecDepth 100000 in
theorem rdeliver_ok (N : RNet) (w : World) (R : ROk w N) (S : RSmall N) (k : Nat) (x : RFl) (hx : N.all[k]? = some x) (hg : x.gone = false) (BLK : blockedB N.blk x.p.frm x.p.to = false) :
    Calls Try.prog 47 #[N.val, .int .i64 (k : Nat)] w (ROutP w N (N.abs.setAt (k : Nat) (fun x => { x with gone := true }) 2) x.p.abs 0) := by
  obtain ⟨W0, hW0⟩ : ∃ W0, W0 = ((w.alloc (.cells #[N.va, N.vh, N.ve, N.vb] 64)).alloc (.cells #[.slice none 0 0, .slice none 0 0, .slice none 0 0, .slice none 0 0] 64)).alloc (.cells #[.string { data := #[] }, .string { data := #[] }, .slice none 0 0] 35) := ⟨_, rfl⟩
  have b0 : Below w.heap.size w W0 := by rw [hW0]; exact (((Below.refl _ _).alloc (Nat.le_refl _) _).alloc (by simp) _).alloc (by simp; omega) _
  have z0 : w.heap.size + 3 = W0.heap.size := by rw [hW0]; simp
  have x0 : W0.heap[w.heap.size]? = some (.cells #[N.va, N.vh, N.ve, N.vb] 64 (0, 0)) := by rw [hW0, old_at (by simp; omega), old_at (by simp)]; exact new_at rfl
  have x1 : W0.heap[w.heap.size + 1]? = some (.cells #[.slice none 0 0, .slice none 0 0, .slice none 0 0, .slice none 0 0] 64 (0, 0)) := by rw [hW0, old_at (by simp)]; exact new_at (by simp)
  have x2 : W0.heap[w.heap.size + 2]? = some (.cells #[.string { data := #[] }, .string { data := #[] }, .slice none 0 0] 35 (0, 0)) := by rw [hW0]; exact new_at (by simp)
  have HB0 := Lib.hid b0
  have hfm := R.forms
  have HW0 := Lib.hid hW0
  have HF := Lib.hid (flies_any N W0 (R.below b0) S (k : Nat))
  have hfl : fliesB N.all (k : Nat) = true := by simp [fliesB, hx, hg]
  rw [hfl] at HF
  have hkl : k < N.all.length := (List.getElem?_eq_some_iff.1 hx).1
  have hnl := S.all
  have HR := Lib.hid R
  have HS := Lib.hid S
  have HX := Lib.hid hx
  have hxm := List.mem_of_getElem? hx
  obtain ⟨⟨a1, n1, k1, ha1⟩, ⟨a2, n2, k2, ha2⟩, ⟨a3, n3, k3, ha3⟩, ⟨a4, n4, k4, ha4⟩⟩ := hfm
  obtain ⟨g0, c0, hva⟩ := slice_box R.a (by omega)
  obtain ⟨n, hn⟩ : ∃ n, N.all.length = n := ⟨_, rfl⟩
  rw [hn] at hva hkl hnl
  have hval : N.val = .agg #[.slice (some ⟨g0, 0, none⟩) n c0, .slice a2 n2 k2, .slice a3 n3 k3, .slice a4 n4 k4] := by unfold RNet.val; rw [hva, ha2, ha3, ha4]
  have HVAL := Lib.hid hval
  obtain ⟨pa, pc, hbv⟩ := ownB_slice (R.ab x hxm)
  obtain ⟨pl, hpl⟩ : ∃ l, x.p.bs.length = l := ⟨_, rfl⟩
  have ra := R.a
  rw [hva, hn] at ra
  have hgl : g0 < w.heap.size := (ra.lt g0 rfl).2
  have m0 := el_at (f := RFl.cells) (fun _ => rfl) ra hx hn 0 (by decide)
  have m1 := el_at (f := RFl.cells) (fun _ => rfl) ra hx hn 1 (by decide)
  have m2 := el_at (f := RFl.cells) (fun _ => rfl) ra hx hn 2 (by decide)
  simp [RFl.cells, hbv, hpl] at m0 m1 m2
  rw [hva, ha2, ha3, ha4] at x0 HW0
  have HBV := Lib.hid hbv
  have HPL := Lib.hid hpl
  have HN := Lib.hid hn
  clear R S b0 hW0 ha1 ha2 ha3 ha4 hval hva hn hbv hpl ra hx hfl hxm
  rw [HVAL.out] at HF ⊢
  obtain ⟨i0, i1, i2, i3, fi⟩ := cells4 x0
  go_enter Try.func47, Try.ntmps47
  go_wp2_with fail
  rw [← HW0.out]
  refine HF.out.mono ?_
  rintro e Wf ⟨rfl, hb1⟩
  have y0 := old_box x0 hb1 (by omega)
  have y1 := old_box x1 hb1 (by omega)
  have y2 := old_box x2 hb1 (by omega)
  clear i0 i1 i2 i3 fi
  obtain ⟨i0, i1, i2, i3, fi⟩ := cells4 y0
  obtain ⟨ia0, ia1, ia2, ia3, fia⟩ := cells4a y0
  have bf : Below w.heap.size w Wf := HB0.out.trans (hb1.mono (by omega))
  have m0 := bcells bf hgl m0
  have m1 := bcells bf hgl m1
  have m2 := bcells bf hgl m2
  have hzf := hb1.size
  obtain ⟨Wp, hWp⟩ : ∃ Wp, Wp = Wf.alloc (.cells #[.string x.p.frm, .string x.p.to, .slice pa pl pc] 35) := ⟨_, rfl⟩
  have bp : Below Wf.heap.size Wf Wp := by rw [hWp]; exact (Below.refl _ _).alloc (Nat.le_refl _) _
  have xp : Wp.heap[Wf.heap.size]? = some (.cells #[.string x.p.frm, .string x.p.to, .slice pa pl pc] 35 (0, 0)) := by rw [hWp]; exact new_at rfl
  have zp : Wp.heap.size = Wf.heap.size + 1 := by rw [hWp]; simp
  have bwp : Below w.heap.size w Wp := bf.trans (bp.mono (by omega))
  have HBK := Lib.hid (blocked_any N Wp (HR.out.below bwp) HS.out x.p.frm x.p.to)
  rw [BLK, HVAL.out] at HBK
  have HWp := Lib.hid hWp
  have HBWP := Lib.hid bwp
  have y0 := old_box y0 bp (by omega)
  have y1 := old_box y1 bp (by omega)
  have y2 := old_box y2 bp (by omega)
  have HZ := Lib.hid z0
  clear hb1 hWp bp bf z0 bwp
  go_wp2_with fail
  rw [← HWp.out]
  refine HBK.out.mono ?_
  rintro e Wb ⟨rfl, hb2⟩
  have hzb := hb2.size
  have hz0 := HZ.out
  have y0 := old_box y0 hb2 (by omega)
  have y1 := old_box y1 hb2 (by omega)
  have y2 := old_box y2 hb2 (by omega)
  have xp := old_box xp hb2 (by omega)
  clear i0 i1 i2 i3 fi ia0 ia1 ia2 ia3 fia m0 m1 m2
  obtain ⟨i0, i1, i2, i3, fi⟩ := cells4 y0
  have bfw : Below w.heap.size w Wb := HBWP.out.trans (hb2.mono (by omega))
  have HO := Lib.hid (rowned_any N Wb (HR.out.below bfw) HS.out)
  have HBF := Lib.hid bfw
  clear hb2 bfw
  rw [HVAL.out] at HO
  go_wp2_with fail
  refine HO.out.mono ?_
  rintro e W1 ⟨N1, rfl, O⟩
  obtain ⟨x1', hx1, hxa⟩ := owned_at O HX.out
  have hl1 : N1.all.length = n := by have := congrArg List.length O.abs; rw [← HN.out]; simpa using this
  have hz1 := O.below.size
  have y1 := old_box y1 O.below (by omega)
  have y2 := old_box y2 O.below (by omega)
  have xp := old_box xp O.below (by omega)
  obtain ⟨g, c, hva1⟩ := slice_box O.ok.a (by omega)
  have hgl1 : g < W1.heap.size := (O.ok.a.lt g (by rw [hva1]; rfl)).2
  have hgf : Wb.heap.size ≤ g := O.fa g (by rw [hva1]; rfl)
  obtain ⟨-, ⟨d2, m2, l2, hd2⟩, ⟨d3, m3, l3, hd3⟩, ⟨d4, m4, l4, hd4⟩⟩ := O.ok.forms
  rw [hl1] at hva1
  have HVAL1 : Hid (N1.val = .agg #[.slice (some ⟨g, 0, none⟩) n c, .slice d2 m2 l2, .slice d3 m3 l3, .slice d4 m4 l4]) := Lib.hid (by unfold RNet.val; rw [hva1, hd2, hd3, hd4])
  obtain ⟨Wm, hWm⟩ : ∃ Wm, Wm = W1.alloc (.cells #[.slice (some ⟨g, 0, none⟩) n c, .slice d2 m2 l2, .slice d3 m3 l3, .slice d4 m4 l4] 64) := ⟨_, rfl⟩
  have bm : Below W1.heap.size W1 Wm := by rw [hWm]; exact (Below.refl _ _).alloc (Nat.le_refl _) _
  have Rm := O.ok.below bm
  obtain ⟨N2, hN2⟩ : ∃ N2 : RNet, N2 = { N1 with all := N1.all.set k { x1' with gone := true } } := ⟨_, rfl⟩
  obtain ⟨W3, hW3⟩ : ∃ W3, W3 = Wm.setCell ⟨g, k * 5 + 4, none⟩ (.bool true) := ⟨_, rfl⟩
  have zm : Wm.heap.size = W1.heap.size + 1 := by rw [hWm]; simp
  have z3 : W3.heap.size = W1.heap.size + 1 := by rw [hW3, ← zm]; simp
  have r2 : ROk W3 N2 := by
    rw [hN2, hW3]
    exact rset Rm hx1 (by rw [hl1]; exact hva1) 4 (by decide) (.bool true) rfl rfl rfl (O.ok.aok x1' (List.mem_of_getElem? hx1))
  have r2d : ROk W3.drew N2 := r2.stays fun _ _ => rfl
  have hv2 : N2.val = .agg #[.slice (some ⟨g, 0, none⟩) n c, .slice d2 m2 l2, .slice d3 m3 l3, .slice d4 m4 l4] := by rw [← HVAL1.out, hN2]; rfl
  obtain ⟨N3, W4, T, call4⟩ := rnoted_run N2 W3.drew r2d ⟨by rw [hN2]; simp [hl1]; exact hnl, by rw [hN2]; show N1.hist.length ≤ _; rw [O.hist]; exact HS.out.hist, by rw [hN2]; show N1.evs.length ≤ _; rw [O.evs]; exact HS.out.evs, by rw [hN2]; show N1.blk.length ≤ _; rw [O.blk]; exact HS.out.blk⟩ 2 (k : Nat) (-1)
  rw [hv2] at call4
  have nve : ∀ b, N2.ve.ownBlock = some b → Wb.heap.size ≤ b := by rw [hN2]; exact O.fe
  have b13 : Below w.heap.size W1 W3 := by
    rw [hW3]
    exact (bm.mono (by omega)).setCell (p := ⟨_, _, _⟩) (by show w.heap.size ≤ g; omega) _
  have up3 : ∀ b, b < W1.heap.size → b ≠ g → W3.heap[b]? = W1.heap[b]? := fun b hb hne => by rw [hW3, set_other hne, hWm, old_at hb]
  have t1 := (up3 (w.heap.size + 1) (by omega) (by omega)).trans y1
  have t2 := (up3 (w.heap.size + 2) (by omega) (by omega)).trans y2
  have tp := (up3 Wf.heap.size (by omega) (by omega)).trans xp
  have tm : W3.heap[W1.heap.size]? = some (.cells #[.slice (some ⟨g, 0, none⟩) n c, .slice d2 m2 l2, .slice d3 m3 l3, .slice d4 m4 l4] 64 (0, 0)) := by rw [hW3, set_other (by show W1.heap.size ≠ g; omega), hWm]; exact new_at rfl
  have up4 : ∀ b, b < W3.heap.size → b < Wb.heap.size → W4.heap[b]? = W3.heap[b]? := fun b hb hb' => T.2.2.2.2.2.2.2.2.2.block b hb (fun e => by have := nve b e.symm; omega)
  have v1 := (up4 (w.heap.size + 1) (by omega) (by omega)).trans t1
  have v2 := (up4 (w.heap.size + 2) (by omega) (by omega)).trans t2
  have vp := (up4 Wf.heap.size (by omega) (by omega)).trans tp
  obtain ⟨⟨q1, q2, q3, e1⟩, ⟨q4, q5, q6, e2⟩, ⟨q7, q8, q9, e3⟩, ⟨q10, q11, q12, e4⟩⟩ := T.1.forms
  have hv3 : N3.val = .agg #[.slice q1 q2 q3, .slice q4 q5 q6, .slice q7 q8 q9, .slice q10 q11 q12] := by unfold RNet.val; rw [e1, e2, e3, e4]
  rw [hv3] at call4
  obtain ⟨W5, hW5⟩ : ∃ W5, W5 = ((((W4.setCell ⟨w.heap.size + 1, 0, none⟩ (.slice q1 q2 q3)).setCell ⟨w.heap.size + 1, 1, none⟩ (.slice q4 q5 q6)).setCell ⟨w.heap.size + 1, 2, none⟩ (.slice q7 q8 q9)).setCell ⟨w.heap.size + 1, 3, none⟩ (.slice q10 q11 q12)) := ⟨_, rfl⟩
  obtain ⟨W6, hW6⟩ : ∃ W6, W6 = ((W5.setCell ⟨w.heap.size + 2, 0, none⟩ (.string x.p.frm)).setCell ⟨w.heap.size + 2, 1, none⟩ (.string x.p.to)).setCell ⟨w.heap.size + 2, 2, none⟩ (.slice pa pl pc) := ⟨_, rfl⟩
  have up5 : ∀ b, b ≠ w.heap.size + 1 → W5.heap[b]? = W4.heap[b]? := fun b hb => by rw [hW5, box4_other _ _ _ _ hb]
  have up6 : ∀ b, b ≠ w.heap.size + 2 → W6.heap[b]? = W5.heap[b]? := fun b hb => by rw [hW6, set_other hb, set_other hb, set_other hb]
  have u2 := (up5 (w.heap.size + 2) (by omega)).trans v2
  have up := (up5 Wf.heap.size (by omega)).trans vp
  have s1 : W6.heap[w.heap.size + 1]? = some (.cells #[.slice q1 q2 q3, .slice q4 q5 q6, .slice q7 q8 q9, .slice q10 q11 q12] 64 (0, 0)) := by rw [up6 _ (by omega), hW5]; exact box4 v1 _ _ _ _
  have s2 : W6.heap[w.heap.size + 2]? = some (.cells #[.string x.p.frm, .string x.p.to, .slice pa pl pc] 35 (0, 0)) := by rw [hW6]; exact set_at (set_at (set_at u2))
  have b46 : Below w.heap.size W4 W6 := by
    rw [hW6, hW5]
    exact (((box4_below (by omega) _ _ _ _).setCell (p := ⟨_, _, _⟩) (by simp) _).setCell (p := ⟨_, _, _⟩) (by simp) _).setCell (p := ⟨_, _, _⟩) (by simp) _
  have END : Hid (ROutP w N (N.abs.setAt (k : Nat) (fun x => { x with gone := true }) 2) x.p.abs 0 (.returned (.tuple #[.agg #[.slice q1 q2 q3, .slice q4 q5 q6, .slice q7 q8 q9, .slice q10 q11 q12], .agg #[.string x.p.frm, .string x.p.to, .slice pa pl pc], .int .i64 0])) W6) := Lib.hid (by
    rw [hN2] at T
    obtain ⟨g1, g2⟩ := mod_out2 (W4 := W4) (W5 := W6) (x' := { x1' with gone := true }) (f := fun x => { x with gone := true }) HR.out HBF.out O HX.out hx1 rfl rfl b13.drew T (fun b _ hb => by rw [up6 b (by omega), up5 b (by omega)]) b46
    refine ⟨N3, x.p, by rw [hv3]; unfold Pk.val; rw [HBV.out, HPL.out], g1, g2, rfl, (HR.out.below g1.below).ab x (List.mem_of_getElem? HX.out), fun b hb => .inr (.inr (.inr (.inr (.inl ⟨x, List.mem_of_getElem? HX.out, hb⟩)))), ?_⟩
    have := HR.out.aok x (List.mem_of_getElem? HX.out)
    simp only [validB, Bool.and_eq_true, decide_eq_true_eq] at this
    exact this.2)
  have hne1 : ¬ W1.heap.size = g := by omega
  have hne2 : ¬ g = W1.heap.size := by omega
  have ra := Rm.a
  rw [hva1, hl1] at ra
  have cg := el_at (f := RFl.cells) (fun _ => rfl) ra hx1 hl1 4 (by decide)
  simp only [RFl.cells, List.getElem?_cons_succ, List.getElem?_cons_zero] at cg
  have fg := ra.frozenAt (k * 5 + 4)
  rw [hWm] at cg fg
  have HWm := Lib.hid hWm
  have HW3 := Lib.hid hW3
  have HW5 := Lib.hid hW5
  have HW6 := Lib.hid hW6
  have HC4 := Lib.hid call4
  clear call4 T O r2 r2d Rm bm b13 ra hx1 hxa hWm hW3 hW5 hW6 hl1 y0 y1 y2 hgl1 i0 i1 i2 i3 fi hva1 hd2 hd3 hd4 hN2 hv2 hv3 e1 e2 e3 e4 up3 up4 up5 up6 b46 nve zm xp
  rw [HVAL1.out]
  go_wp2_with fail
  rw [← HWm.out, ← HW3.out]
  clear cg fg
  refine wp_region_chain (wsq [W3.drew, W4, W5, W6]) [2, 4, 5] [(0, 1), (3, 3)] (by kernel_rfl) (by kernel_rfl) (by kernel_rfl) (by kernel_rfl) wsq_0 ?_
  refine chain_load rfl rfl 1 (by simp) ?_
  apply Exists.intro
  refine ⟨fun k ww hk hww => ?_, ?_⟩
  focus
    have e := wsq_lt1 hk hww
    subst e
    obtain ⟨o0, o1, o2, o3, -⟩ := cells4 (show W3.drew.heap[W1.heap.size]? = _ from tm)
    unfold calmAt calmUpon
    go_simp
    rfl
  (simp only [Act.put, List.setIfInBounds_toArray, List.set_cons_succ, List.set_cons_zero])
  (refine chain_pure rfl rfl ?_; apply Exists.intro; refine ⟨fun ww => ?_, ?_⟩; (focus (unfold calmAt calmUpon; go_simp; rfl)); (simp only [Act.put, List.setIfInBounds_toArray, List.set_cons_succ, List.set_cons_zero]))
  refine chain_write (by kernel_rfl) rfl 0 rfl (by rfl) ?_
  apply Exists.intro
  refine ⟨fun ww hww => ?_, ?_⟩
  focus
    have e := wsq_lt1 (Nat.zero_lt_one) hww
    subst e
    unfold calmAt calmUpon
    go_simp
    refine HC4.out.mono ?_
    rintro e w1 ⟨rfl, rfl⟩
    exact ⟨rfl, rfl⟩
  (simp only [Act.put, List.setIfInBounds_toArray, List.set_cons_succ, List.set_cons_zero])
  refine chain_load rfl rfl 3 (by simp) ?_
  apply Exists.intro
  refine ⟨fun k ww hk hww => ?_, ?_⟩
  focus
    have m : ww.cell? ⟨Wf.heap.size, 0, none⟩ = some (.string x.p.frm) ∧ ww.cell? ⟨Wf.heap.size, 1, none⟩ = some (.string x.p.to) ∧ ww.cell? ⟨Wf.heap.size, 2, none⟩ = some (.slice pa pl pc) := by
      rcases wsq_lt3 hk hww with rfl | rfl | rfl
      · obtain ⟨o0, o1, o2, -⟩ := cells3 (show W3.drew.heap[Wf.heap.size]? = _ from tp); exact ⟨o0, o1, o2⟩
      · obtain ⟨o0, o1, o2, -⟩ := cells3 vp; exact ⟨o0, o1, o2⟩
      · obtain ⟨o0, o1, o2, -⟩ := cells3 up; exact ⟨o0, o1, o2⟩
    obtain ⟨o0, o1, o2⟩ := m
    unfold calmAt calmUpon
    go_simp
    try rfl
  (simp only [Act.put, List.setIfInBounds_toArray, List.set_cons_succ, List.set_cons_zero])
  refine chain_write (by kernel_rfl) rfl 1 rfl (by rfl) ?_
  apply Exists.intro
  refine ⟨fun ww hww => ?_, ?_⟩
  focus
    have e : W4 = ww := by simpa [wsq] using hww
    subst e
    obtain ⟨o0, o1, o2, o3, fo⟩ := cells4 v1
    unfold calmAt calmUpon
    go_simp
    refine ⟨rfl, ?_⟩
    rw [HW5.out]
    rfl
  (simp only [Act.put, List.setIfInBounds_toArray, List.set_cons_succ, List.set_cons_zero])
  refine chain_write (by kernel_rfl) rfl 2 rfl (by rfl) ?_
  apply Exists.intro
  refine ⟨fun ww hww => ?_, ?_⟩
  focus
    have e : W5 = ww := by simpa [wsq] using hww
    subst e
    obtain ⟨o0, o1, o2, fo⟩ := cells3 u2
    unfold calmAt calmUpon
    go_simp
    refine ⟨rfl, ?_⟩
    rw [HW6.out]
    rfl
  (simp only [Act.put, List.setIfInBounds_toArray, List.set_cons_succ, List.set_cons_zero])
  (refine chain_pure rfl rfl ?_; apply Exists.intro; refine ⟨fun ww => ?_, ?_⟩; (focus (unfold calmAt calmUpon; go_simp; rfl)); (simp only [Act.put, List.setIfInBounds_toArray, List.set_cons_succ, List.set_cons_zero]))
  refine calm_nil ?_
  intro ww hww
  have e : W6 = ww := by simpa [wsq] using hww
  subst e
  obtain ⟨l0, l1, l2', l3', -⟩ := cells4 s1
  obtain ⟨j0, j1, j2, -⟩ := cells3 s2
  clear hww
  go_wp2_with fail
  exact bodyPost_ret (v := .tuple #[.agg #[.slice q1 q2 q3, .slice q4 q5 q6, .slice q7 q8 q9, .slice q10 q11 q12], .agg #[.string x.p.frm, .string x.p.to, .slice pa pl pc], .int .i64 0]) (by simp [results, Try.results47, go_sem, l0, l1, l2', l3', j0, j1, j2]) rfl END.out
end Go.Proofs.Ytiindnmelegkgaa
end
/- The reference's Alter. -/
section
namespace Go.Proofs.Ytiindnmelegkgaa
open Go.RowKit
set_option linter.unusedSimpArgs false
set_option linter.unusedVariables false

theorem flat_sameR {α : Type} (f : α → List Value) : ∀ (fl : List α) (i : Nat) (x x' : α), fl[i]? = some x → f x' = f x → (fl.set i x').flatMap f = fl.flatMap f
  | [], i, x, x', h, _ => by simp at h
  | y :: l, 0, x, x', h, e => by
    simp at h
    subst h
    simp [e]
  | y :: l, i + 1, x, x', h, e => by
    simp at h
    simp [flat_sameR f l i x x' h e]

/-- A byte of an element is set. -/
theorem rset_byte {W : World} {N : RNet} (R : ROk W N) {k : Nat} {x x' : RFl} (hx : N.all[k]? = some x) {gb l c off : Nat} (hbv : x.p.bv = .slice (some ⟨gb, 0, none⟩) l c) (hl : x.p.bs.length = l) (hoff : off < l) (v : Int) (h1 : x'.p.bv = x.p.bv) (h2 : x'.p.bs = x.p.bs.set off v) (h3 : x'.p.frm = x.p.frm) (h4 : x'.p.to = x.p.to) (h5 : x'.src = x.src) (h6 : x'.gone = x.gone)
    (apart : N.all.Pairwise (fun x y => ∀ b, x.p.bv.ownBlock = some b → y.p.bv.ownBlock ≠ some b)) (hh : ∀ q ∈ N.hist, q.bv.ownBlock ≠ some gb) : ROk (W.setCell ⟨gb, off, none⟩ (.int .u8 v)) { N with all := N.all.set k x' } := by
  have hkl := (List.getElem?_eq_some_iff.1 hx).1
  have hxm := List.mem_of_getElem? hx
  have rb := R.ab x hxm
  unfold ownB at rb
  rw [hbv, hl] at rb
  have ne : ∀ {v' : Value} {e : TypeId} {size n : Nat} {xs : List Value}, W.ownsRow 0 e size v' n xs → (e ≠ 5 ∨ v'.ownBlock ≠ some gb) → (W.setCell ⟨gb, off, none⟩ (.int .u8 v)).ownsRow 0 e size v' n xs := fun h hne => row_stays h fun b hb => set_other (fun e => by
    have e' : b = gb := e
    subst e'
    rcases hne with hne | hne
    · exact rows_ne h rb hne hb rfl
    · exact hne hb)
  constructor
  · show (W.setCell ⟨gb, off, none⟩ (.int .u8 v)).ownsRow 0 69 5 N.va (N.all.set k x').length ((N.all.set k x').flatMap RFl.cells)
    rw [flat_sameR RFl.cells N.all k x x' hx (by unfold RFl.cells; rw [h1, h3, h4, h5, h6]), List.length_set]
    exact ne R.a (.inl (by decide))
  · exact ne R.h (.inl (by decide))
  · exact ne R.e (.inl (by decide))
  · exact ne R.b (.inl (by decide))
  · intro y hy
    obtain ⟨j, hj⟩ := List.mem_iff_getElem?.1 hy
    by_cases hjk : k = j
    · subst hjk
      rw [List.getElem?_set_self hkl] at hj
      obtain rfl := Option.some.inj hj
      unfold ownB
      rw [h1, h2, hbv, List.length_set, hl, List.map_set]
      exact row_set rb off (.int .u8 v) (by omega)
    · rw [List.getElem?_set_ne hjk] at hj
      have hym := List.mem_of_getElem? hj
      refine ne (R.ab y hym) (.inr fun e => ?_)
      obtain ⟨hj1, hj2⟩ := List.getElem?_eq_some_iff.1 hj
      obtain ⟨hk1, hk2⟩ := List.getElem?_eq_some_iff.1 hx
      have hxb : x.p.bv.ownBlock = some gb := by rw [hbv]; rfl
      rcases Nat.lt_or_ge k j with h | h
      · exact List.pairwise_iff_getElem.1 apart k j hk1 hj1 h gb (by rw [hk2]; exact hxb) (by rw [hj2]; exact e)
      · exact List.pairwise_iff_getElem.1 apart j k hj1 hk1 (by omega) gb (by rw [hj2]; exact e) (by rw [hk2]; exact hxb)
  · exact fun q hq => ne (R.hb q hq) (.inr (hh q hq))
  · intro y hy
    rcases List.mem_or_eq_of_mem_set hy with h | h
    · exact R.aok y h
    · have := R.aok x hxm
      rw [h]
      simp only [validB] at this ⊢
      rw [h2, h3, h4, List.length_set]
      exact this
  · exact R.hok

def RAbs.alter (A : RAbs) (id off m : Int) : RAbs × Int :=
  if (m == 0) = true then (A, 2) else if A.flies id = false then (A, 9) else if off < 0 ∨ ((A.at id).bs.length : Int) ≤ off then (A, 3) else (A.setAt id (fun x => { x with bs := x.bs.modify off.toNat (fun y => bits .xor .u8 y m) }) 5, 0)

set_option maxHeartbeats 2000000 in
set_option maxRecDepth 100000 in
theorem ralter_zero (N : RNet) (w : World) (R : ROk w N) (S : RSmall N) (id off m : Int) (hm : (m == 0) = true) :
    Calls Try.prog 49 #[N.val, .int .i64 id, .int .i64 off, .int .u8 m] w (ROut0 w N N.abs 2) := by
  obtain ⟨W0, hW0⟩ : ∃ W0, W0 = (w.alloc (.cells #[N.va, N.vh, N.ve, N.vb] 64)).alloc (.cells #[.slice none 0 0, .slice none 0 0, .slice none 0 0, .slice none 0 0] 64) := ⟨_, rfl⟩
  have b0 : Below w.heap.size w W0 := by rw [hW0]; exact ((Below.refl _ _).alloc (Nat.le_refl _) _).alloc (by simp) _
  have HT : Hid (∀ (W2 : World) (er : Int) v, v = N.val → Below w.heap.size w W2 → ROut0 w N N.abs er (.returned (.tuple #[v, .int .i64 er])) W2) := Lib.hid fun W2 er v hv hb => ⟨N, by rw [hv], RNext.refl R hb, rfl⟩
  obtain ⟨⟨a1, n1, k1, ha1⟩, ⟨a2, n2, k2, ha2⟩, ⟨a3, n3, k3, ha3⟩, ⟨a4, n4, k4, ha4⟩⟩ := R.forms
  have HVAL : Hid (N.val = .agg #[.slice a1 n1 k1, .slice a2 n2 k2, .slice a3 n3 k3, .slice a4 n4 k4]) := Lib.hid (by unfold RNet.val; rw [ha1, ha2, ha3, ha4])
  rw [ha1, ha2, ha3, ha4] at hW0
  rw [HVAL.out]
  have HB0 := Lib.hid b0
  have HW0 := Lib.hid hW0
  clear R S b0 hW0 ha1 ha2 ha3 ha4
  go_enter Try.func49, Try.ntmps49
  go_wp2_with fail
  exact bodyPost_ret (v := .tuple #[.agg #[.slice a1 n1 k1, .slice a2 n2 k2, .slice a3 n3 k3, .slice a4 n4 k4], .int .i64 2]) (by simp [results, Try.results49, go_sem]) rfl
    (HT.out _ 2 _ HVAL.out.symm (((Below.refl _ _).alloc (Nat.le_refl _) _).alloc (by simp) _))

set_option maxHeartbeats 2000000 in
set_option maxRecDepth 100000 in
theorem ralter_miss (N : RNet) (w : World) (R : ROk w N) (S : RSmall N) (id off m : Int) (hm : (m == 0) = false) (hfl : fliesB N.all id = false) :
    Calls Try.prog 49 #[N.val, .int .i64 id, .int .i64 off, .int .u8 m] w (ROut0 w N N.abs 9) := by
  obtain ⟨W0, hW0⟩ : ∃ W0, W0 = (w.alloc (.cells #[N.va, N.vh, N.ve, N.vb] 64)).alloc (.cells #[.slice none 0 0, .slice none 0 0, .slice none 0 0, .slice none 0 0] 64) := ⟨_, rfl⟩
  have b0 : Below w.heap.size w W0 := by rw [hW0]; exact ((Below.refl _ _).alloc (Nat.le_refl _) _).alloc (by simp) _
  have z0 : w.heap.size + 2 = W0.heap.size := by rw [hW0]; simp
  have x0 : W0.heap[w.heap.size]? = some (.cells #[N.va, N.vh, N.ve, N.vb] 64 (0, 0)) := by rw [hW0, old_at (by simp)]; exact new_at rfl
  have x1 : W0.heap[w.heap.size + 1]? = some (.cells #[.slice none 0 0, .slice none 0 0, .slice none 0 0, .slice none 0 0] 64 (0, 0)) := by rw [hW0]; exact new_at (by simp)
  have HF := Lib.hid (flies_any N W0 (R.below b0) S id)
  rw [hfl] at HF
  have HT : Hid (∀ (W2 : World) (er : Int) v, v = N.val → Below w.heap.size w W2 → ROut0 w N N.abs er (.returned (.tuple #[v, .int .i64 er])) W2) := Lib.hid fun W2 er v hv hb => ⟨N, by rw [hv], RNext.refl R hb, rfl⟩
  obtain ⟨⟨a1, n1, k1, ha1⟩, ⟨a2, n2, k2, ha2⟩, ⟨a3, n3, k3, ha3⟩, ⟨a4, n4, k4, ha4⟩⟩ := R.forms
  have HVAL : Hid (N.val = .agg #[.slice a1 n1 k1, .slice a2 n2 k2, .slice a3 n3 k3, .slice a4 n4 k4]) := Lib.hid (by unfold RNet.val; rw [ha1, ha2, ha3, ha4])
  rw [ha1, ha2, ha3, ha4] at hW0 x0
  rw [HVAL.out] at HF ⊢
  have HB0 := Lib.hid b0
  have HW0 := Lib.hid hW0
  clear R S b0 hW0 ha1 ha2 ha3 ha4 hfl
  obtain ⟨i0, i1, i2, i3, fi⟩ := cells4 x0
  go_enter Try.func49, Try.ntmps49
  go_wp2_with fail
  rw [← HW0.out]
  refine HF.out.mono ?_
  rintro e W1 ⟨rfl, hb1⟩
  have y0 := old_box x0 hb1 (by omega)
  have y1 := old_box x1 hb1 (by omega)
  clear i0 i1 i2 i3 fi
  obtain ⟨i0, i1, i2, i3, fi⟩ := cells4 y0
  obtain ⟨l0, l1, l2, l3, fl⟩ := cells4 y1
  have HB1 := Lib.hid hb1
  have HZ := Lib.hid z0
  clear hb1 z0
  go_wp2_with fail
  exact bodyPost_ret (v := .tuple #[.agg #[.slice a1 n1 k1, .slice a2 n2 k2, .slice a3 n3 k3, .slice a4 n4 k4], .int .i64 9]) (by simp [results, Try.results49, go_sem, l0, l1, l2, l3]) rfl
    (HT.out _ 9 _ HVAL.out.symm ((HB0.out.trans (HB1.out.mono (by have := HZ.out; omega))).trans (box4_below (by omega) _ _ _ _)))
end Go.Proofs.Ytiindnmelegkgaa
end
/- The reference's Alter: out of range, and done. -/
section
namespace Go.Proofs.Ytiindnmelegkgaa
open Go.RowKit
set_option linter.unusedSimpArgs false
set_option linter.unusedVariables false

set_option maxHeartbeats 2000000 in
set_option maxRecDepth 100000 in
theorem ralter_range (N : RNet) (w : World) (R : ROk w N) (S : RSmall N) (k : Nat) (x : RFl) (hx : N.all[k]? = some x) (hg : x.gone = false) (off m : Int) (hm : (m == 0) = false) (ho : off < 0 ∨ (x.p.bs.length : Int) ≤ off) :
    Calls Try.prog 49 #[N.val, .int .i64 (k : Nat), .int .i64 off, .int .u8 m] w (ROut0 w N N.abs 3) := by
  have HT : Hid (∀ (W2 : World) (er : Int) v, v = N.val → Below w.heap.size w W2 → ROut0 w N N.abs er (.returned (.tuple #[v, .int .i64 er])) W2) := Lib.hid fun W2 er v hv hb => ⟨N, by rw [hv], RNext.refl R hb, rfl⟩
  obtain ⟨W0, hW0⟩ : ∃ W0, W0 = (w.alloc (.cells #[N.va, N.vh, N.ve, N.vb] 64)).alloc (.cells #[.slice none 0 0, .slice none 0 0, .slice none 0 0, .slice none 0 0] 64) := ⟨_, rfl⟩
  have b0 : Below w.heap.size w W0 := by rw [hW0]; exact ((Below.refl _ _).alloc (Nat.le_refl _) _).alloc (by simp) _
  have z0 : w.heap.size + 2 = W0.heap.size := by rw [hW0]; simp
  have x0 : W0.heap[w.heap.size]? = some (.cells #[N.va, N.vh, N.ve, N.vb] 64 (0, 0)) := by rw [hW0, old_at (by simp)]; exact new_at rfl
  have x1 : W0.heap[w.heap.size + 1]? = some (.cells #[.slice none 0 0, .slice none 0 0, .slice none 0 0, .slice none 0 0] 64 (0, 0)) := by rw [hW0]; exact new_at (by simp)
  have HF := Lib.hid (flies_any N W0 (R.below b0) S (k : Nat))
  have hfl : fliesB N.all (k : Nat) = true := by simp [fliesB, hx, hg]
  rw [hfl] at HF
  have hkl : k < N.all.length := (List.getElem?_eq_some_iff.1 hx).1
  have hnl := S.all
  have hxm := List.mem_of_getElem? hx
  obtain ⟨-, ⟨a2, n2, k2, ha2⟩, ⟨a3, n3, k3, ha3⟩, ⟨a4, n4, k4, ha4⟩⟩ := R.forms
  obtain ⟨g0, c0, hva⟩ := slice_box R.a (by omega)
  obtain ⟨n, hn⟩ : ∃ n, N.all.length = n := ⟨_, rfl⟩
  rw [hn] at hva hkl hnl
  have HVAL : Hid (N.val = .agg #[.slice (some ⟨g0, 0, none⟩) n c0, .slice a2 n2 k2, .slice a3 n3 k3, .slice a4 n4 k4]) := Lib.hid (by unfold RNet.val; rw [hva, ha2, ha3, ha4])
  obtain ⟨pa, pc, hbv⟩ := ownB_slice (R.ab x hxm)
  obtain ⟨pl, hpl⟩ : ∃ l, x.p.bs.length = l := ⟨_, rfl⟩
  have ra := R.a
  rw [hva, hn] at ra
  have hgl : g0 < w.heap.size := (ra.lt g0 rfl).2
  have m2 := el_at (f := RFl.cells) (fun _ => rfl) ra hx hn 2 (by decide)
  simp [RFl.cells, hbv, hpl] at m2
  rw [hva, ha2, ha3, ha4] at hW0 x0
  rw [hpl] at ho
  rw [HVAL.out] at HF ⊢
  have hbl : pl ≤ 65536 := by
    have := R.aok x hxm
    simp only [validB, Bool.and_eq_true, decide_eq_true_eq] at this
    omega
  have HB0 := Lib.hid b0
  have HW0 := Lib.hid hW0
  have HR := Lib.hid R
  have HS := Lib.hid S
  have HX := Lib.hid hx
  have HN := Lib.hid hn
  have HPL := Lib.hid hpl
  clear R S b0 hW0 ha2 ha3 ha4 hfl hva hn hbv hpl ra hx hxm
  obtain ⟨i0, i1, i2, i3, fi⟩ := cells4 x0
  by_cases h0 : off < 0
  all_goals
    try (have ho2 : (pl : Int) ≤ off := by omega)
    go_enter Try.func49, Try.ntmps49
    go_wp2_with fail
    rw [← HW0.out]
    refine HF.out.mono ?_
    rintro e Wf ⟨rfl, hbf⟩
    have hz0 := z0
    have y0 := old_box x0 hbf (by omega)
    have y1 := old_box x1 hbf (by omega)
    clear i0 i1 i2 i3 fi
    obtain ⟨i0, i1, i2, i3, fi⟩ := cells4 y0
    have bf : Below w.heap.size w Wf := HB0.out.trans (hbf.mono (by omega))
    have m2 := bcells bf hgl m2
    have hzf := hbf.size
    have HBF := Lib.hid bf
    have HZ := Lib.hid z0
    obtain ⟨l0, l1, l2, l3, fl⟩ := cells4 y1
    clear hbf bf z0 hz0
    go_wp2_with fail
    exact bodyPost_ret (v := .tuple #[.agg #[.slice (some ⟨g0, 0, none⟩) n c0, .slice a2 n2 k2, .slice a3 n3 k3, .slice a4 n4 k4], .int .i64 3]) (by simp [results, Try.results49, go_sem, l0, l1, l2, l3]) rfl
      (HT.out _ 3 _ HVAL.out.symm (HBF.out.trans (box4_below (by omega) _ _ _ _)))

set_option maxHeartbeats 2000000 in
set_option maxRecDepth 100000 in
theorem ralter_ok (N : RNet) (w : World) (R : ROk w N) (S : RSmall N) (k : Nat) (x : RFl) (hx : N.all[k]? = some x) (hg : x.gone = false) (off : Nat) (m : Int) (hm : (m == 0) = false) (ho : off < x.p.bs.length) :
    Calls Try.prog 49 #[N.val, .int .i64 (k : Nat), .int .i64 (off : Nat), .int .u8 m] w (ROut0 w N (N.abs.setAt (k : Nat) (fun x => { x with bs := x.bs.modify (off : Int).toNat (fun y => bits .xor .u8 y m) }) 5) 0) := by
  obtain ⟨W0, hW0⟩ : ∃ W0, W0 = (w.alloc (.cells #[N.va, N.vh, N.ve, N.vb] 64)).alloc (.cells #[.slice none 0 0, .slice none 0 0, .slice none 0 0, .slice none 0 0] 64) := ⟨_, rfl⟩
  have b0 : Below w.heap.size w W0 := by rw [hW0]; exact ((Below.refl _ _).alloc (Nat.le_refl _) _).alloc (by simp) _
  have z0 : w.heap.size + 2 = W0.heap.size := by rw [hW0]; simp
  have x0 : W0.heap[w.heap.size]? = some (.cells #[N.va, N.vh, N.ve, N.vb] 64 (0, 0)) := by rw [hW0, old_at (by simp)]; exact new_at rfl
  have x1 : W0.heap[w.heap.size + 1]? = some (.cells #[.slice none 0 0, .slice none 0 0, .slice none 0 0, .slice none 0 0] 64 (0, 0)) := by rw [hW0]; exact new_at (by simp)
  have HF := Lib.hid (flies_any N W0 (R.below b0) S (k : Nat))
  have hfl : fliesB N.all (k : Nat) = true := by simp [fliesB, hx, hg]
  rw [hfl] at HF
  have hkl : k < N.all.length := (List.getElem?_eq_some_iff.1 hx).1
  have hnl := S.all
  have hxm := List.mem_of_getElem? hx
  obtain ⟨-, ⟨a2, n2, k2, ha2⟩, ⟨a3, n3, k3, ha3⟩, ⟨a4, n4, k4, ha4⟩⟩ := R.forms
  obtain ⟨g0, c0, hva⟩ := slice_box R.a (by omega)
  obtain ⟨n, hn⟩ : ∃ n, N.all.length = n := ⟨_, rfl⟩
  rw [hn] at hva hkl hnl
  have HVAL : Hid (N.val = .agg #[.slice (some ⟨g0, 0, none⟩) n c0, .slice a2 n2 k2, .slice a3 n3 k3, .slice a4 n4 k4]) := Lib.hid (by unfold RNet.val; rw [hva, ha2, ha3, ha4])
  obtain ⟨pa, pc, hbv⟩ := ownB_slice (R.ab x hxm)
  obtain ⟨pl, hpl⟩ : ∃ l, x.p.bs.length = l := ⟨_, rfl⟩
  have ra := R.a
  rw [hva, hn] at ra
  have hgl : g0 < w.heap.size := (ra.lt g0 rfl).2
  have m2 := el_at (f := RFl.cells) (fun _ => rfl) ra hx hn 2 (by decide)
  simp [RFl.cells, hbv, hpl] at m2
  rw [hva, ha2, ha3, ha4] at hW0 x0
  rw [hpl] at ho
  rw [HVAL.out] at HF ⊢
  have hbl : pl ≤ 65536 := by
    have := R.aok x hxm
    simp only [validB, Bool.and_eq_true, decide_eq_true_eq] at this
    omega
  have HB0 := Lib.hid b0
  have HW0 := Lib.hid hW0
  have HR := Lib.hid R
  have HS := Lib.hid S
  have HX := Lib.hid hx
  have HN := Lib.hid hn
  have HPL := Lib.hid hpl
  clear R S b0 hW0 ha2 ha3 ha4 hfl hva hn hbv hpl ra hx hxm
  obtain ⟨i0, i1, i2, i3, fi⟩ := cells4 x0
  go_enter Try.func49, Try.ntmps49
  go_wp2_with fail
  rw [← HW0.out]
  refine HF.out.mono ?_
  rintro e Wf ⟨rfl, hbf⟩
  have hz0 := z0
  have y0 := old_box x0 hbf (by omega)
  have y1 := old_box x1 hbf (by omega)
  clear i0 i1 i2 i3 fi
  obtain ⟨i0, i1, i2, i3, fi⟩ := cells4 y0
  have bf : Below w.heap.size w Wf := HB0.out.trans (hbf.mono (by omega))
  have m2 := bcells bf hgl m2
  have hzf := hbf.size
  have HBF := Lib.hid bf
  have HZ := Lib.hid z0
  have HO := Lib.hid (rowned_any N Wf (HR.out.below bf) HS.out)
  rw [HVAL.out] at HO
  have hof : ¬ ((off : Int) < 0) := by omega
  have hof2 : (off : Int) < pl := by omega
  clear hbf bf z0
  go_wp2_with fail
  refine HO.out.mono ?_
  rintro e W1 ⟨N1, rfl, O⟩
  obtain ⟨x1', hx1, hxa⟩ := owned_at O HX.out
  have hl1 : N1.all.length = n := by have := congrArg List.length O.abs; rw [← HN.out]; simpa using this
  have hz1 := O.below.size
  have y1 := old_box y1 O.below (by omega)
  obtain ⟨g, c, hva1⟩ := slice_box O.ok.a (by omega)
  have hgl1 : g < W1.heap.size := (O.ok.a.lt g (by rw [hva1]; rfl)).2
  have hgf : Wf.heap.size ≤ g := O.fa g (by rw [hva1]; rfl)
  obtain ⟨-, ⟨d2, m2', l2, hd2⟩, ⟨d3, m3, l3, hd3⟩, ⟨d4, m4, l4, hd4⟩⟩ := O.ok.forms
  rw [hl1] at hva1
  have HVAL1 : Hid (N1.val = .agg #[.slice (some ⟨g, 0, none⟩) n c, .slice d2 m2' l2, .slice d3 m3 l3, .slice d4 m4 l4]) := Lib.hid (by unfold RNet.val; rw [hva1, hd2, hd3, hd4])
  have hxm1 := List.mem_of_getElem? hx1
  have hbs1 : x1'.p.bs.length = pl := by
    have h := congrArg (fun a : RA => a.bs.length) hxa
    exact Eq.trans h HPL.out
  obtain ⟨gb, bc, hbv1⟩ : ∃ gb bc, x1'.p.bv = .slice (some ⟨gb, 0, none⟩) pl bc := by
    obtain ⟨gb, bc, h⟩ := slice_box (O.ok.ab x1' hxm1) (by omega)
    exact ⟨gb, bc, by rw [h, hbs1]⟩
  have hgb1 : gb < W1.heap.size := ((O.ok.ab x1' hxm1).lt gb (by rw [hbv1]; rfl)).2
  have hgbf : Wf.heap.size ≤ gb := O.fb x1' hxm1 gb (by rw [hbv1]; rfl)
  obtain ⟨Wm, hWm⟩ : ∃ Wm, Wm = W1.alloc (.cells #[.slice (some ⟨g, 0, none⟩) n c, .slice d2 m2' l2, .slice d3 m3 l3, .slice d4 m4 l4] 64) := ⟨_, rfl⟩
  have bm : Below W1.heap.size W1 Wm := by rw [hWm]; exact (Below.refl _ _).alloc (Nat.le_refl _) _
  have Rm : ROk Wm.drew N1 := (O.ok.below bm).stays fun _ _ => rfl
  obtain ⟨y, hy⟩ : ∃ y, x1'.p.bs[off]? = some y := ⟨x1'.p.bs[off]'(by omega), List.getElem?_eq_getElem _⟩
  obtain ⟨N2, hN2⟩ : ∃ N2 : RNet, N2 = { N1 with all := N1.all.set k { x1' with p := { x1'.p with bs := x1'.p.bs.set off (bits .xor .u8 y m) } } } := ⟨_, rfl⟩
  obtain ⟨W3, hW3⟩ : ∃ W3, W3 = Wm.drew.setCell ⟨gb, off, none⟩ (.int .u8 (bits .xor .u8 y m)) := ⟨_, rfl⟩
  have r2 : ROk W3 N2 := by
    rw [hN2, hW3]
    refine rset_byte Rm hx1 hbv1 hbs1 (by omega) _ rfl rfl rfl rfl rfl rfl O.apart (fun q hq e => ?_)
    rw [O.hist] at hq
    have := (HR.out.hb q hq).lt gb e
    have := HBF.out.size
    omega
  have hv2 : N2.val = .agg #[.slice (some ⟨g, 0, none⟩) n c, .slice d2 m2' l2, .slice d3 m3 l3, .slice d4 m4 l4] := by rw [← HVAL1.out, hN2]; rfl
  have HNT := Lib.hid (rnoted_any N2 W3 r2 ⟨by rw [hN2]; simp [hl1]; exact hnl, by rw [hN2]; show N1.hist.length ≤ _; rw [O.hist]; exact HS.out.hist, by rw [hN2]; show N1.evs.length ≤ _; rw [O.evs]; exact HS.out.evs, by rw [hN2]; show N1.blk.length ≤ _; rw [O.blk]; exact HS.out.blk⟩ 5 (k : Nat) (-1))
  rw [hv2] at HNT
  have b13 : Below w.heap.size W1 W3 := by
    rw [hW3]
    exact (bm.mono (by omega)).drew.setCell (p := ⟨_, _, _⟩) (by show w.heap.size ≤ gb; omega) _
  have t1 : W3.heap[w.heap.size + 1]? = some (.cells #[.slice none 0 0, .slice none 0 0, .slice none 0 0, .slice none 0 0] 64 (0, 0)) := by
    rw [hW3, set_other (by show w.heap.size + 1 ≠ gb; omega)]
    show Wm.heap[w.heap.size + 1]? = _
    rw [hWm, old_at (by omega)]; exact y1
  have tm0 : Wm.heap[W1.heap.size]? = some (.cells #[.slice (some ⟨g, 0, none⟩) n c, .slice d2 m2' l2, .slice d3 m3 l3, .slice d4 m4 l4] 64 (0, 0)) := by rw [hWm]; exact new_at rfl
  have tm : W3.heap[W1.heap.size]? = some (.cells #[.slice (some ⟨g, 0, none⟩) n c, .slice d2 m2' l2, .slice d3 m3 l3, .slice d4 m4 l4] 64 (0, 0)) := by rw [hW3, set_other (by show W1.heap.size ≠ gb; omega)]; exact tm0
  have ra := Rm.a
  rw [hva1, hl1] at ra
  have cg := el_at (f := RFl.cells) (fun _ => rfl) ra hx1 hl1 2 (by decide)
  simp only [RFl.cells, List.getElem?_cons_succ, List.getElem?_cons_zero, hbv1] at cg
  have rbb := Rm.ab x1' hxm1
  unfold ownB at rbb
  rw [hbv1, hbs1] at rbb
  have cb := rbb.cellAt off (by omega)
  rw [List.getElem?_map, hy] at cb
  simp only [Option.map_some] at cb
  have fb := rbb.frozenAt off
  have END : Hid (∀ W4 N3, RNoted W3 W4 N2 ⟨5, (k : Nat), -1⟩ N3 → ∀ W5, W5 = ((((W4.setCell ⟨w.heap.size + 1, 0, none⟩ N3.va).setCell ⟨w.heap.size + 1, 1, none⟩ N3.vh).setCell ⟨w.heap.size + 1, 2, none⟩ N3.ve).setCell ⟨w.heap.size + 1, 3, none⟩ N3.vb) →
      ∀ v, v = N3.val → ROut0 w N (RAbs.setAt N.abs (k : Nat) (fun x => { x with bs := x.bs.modify (off : Int).toNat (fun y => bits .xor .u8 y m) }) 5) 0 (.returned (.tuple #[v, .int .i64 0])) W5) := Lib.hid fun W4 N3 T W5 h5 v hv => by
    rw [hN2] at T
    obtain ⟨e1, e2⟩ := mod_out2 (W4 := W4) (W5 := W5) (x' := { x1' with p := { x1'.p with bs := x1'.p.bs.set off (bits .xor .u8 y m) } }) (f := fun x => { x with bs := x.bs.modify (off : Int).toNat (fun y => bits .xor .u8 y m) }) HR.out HBF.out O HX.out hx1 rfl (by
      show RA.mk _ _ _ _ _ = RA.mk _ _ _ _ _
      congr 1
      show x1'.p.bs.set off _ = x1'.p.bs.modify (off : Int).toNat _
      rw [Int.toNat_natCast, modify_set _ _ _ _ hy]) b13 T (fun b _ hb => by rw [h5, box4_other _ _ _ _ (by omega)]) (by rw [h5]; exact box4_below (by omega) _ _ _ _)
    exact ⟨N3, by rw [hv], e1, e2⟩
  have nve : ∀ b, N2.ve.ownBlock = some b → Wf.heap.size ≤ b := by rw [hN2]; exact O.fe
  have hk1 : k < n := by omega
  have HWm := Lib.hid hWm
  have HW3 := Lib.hid hW3
  clear O r2 Rm bm b13 ra rbb hx1 hxa hWm hW3 hl1 y0 hgl1 i0 i1 i2 i3 fi hva1 hd2 hd3 hd4 hN2 hv2 hbs1 hbv1 hxm1 hy
  rw [HVAL1.out]
  go_wp2_with fail
  rw [← HWm.out]
  refine wp_region_chain (wsq [Wm.drew, W3]) [21] [(1, 1), (6, 1), (9, 1), (14, 1), (17, 1)] (by kernel_rfl) (by kernel_rfl) (by kernel_rfl) (by kernel_rfl) wsq_0 ?_
  have tmd : Wm.drew.heap[W1.heap.size]? = _ := tm0
  obtain ⟨o0, o1, o2, o3, -⟩ := cells4 tmd
  (refine chain_pure rfl rfl ?_; apply Exists.intro; refine ⟨fun ww => ?_, ?_⟩; (focus (unfold calmAt calmUpon; go_simp; rfl)); (simp only [Act.put, List.setIfInBounds_toArray, List.set_cons_succ, List.set_cons_zero]))
  (refine chain_load rfl rfl 1 (by simp) ?_; apply Exists.intro; refine ⟨fun k ww hk hww => ?_, ?_⟩; (focus (have e := wsq_lt1 hk hww; subst e; unfold calmAt calmUpon; go_simp; rfl)); (simp only [Act.put, List.setIfInBounds_toArray, List.set_cons_succ, List.set_cons_zero]))
  iterate 4 (refine chain_pure rfl rfl ?_; apply Exists.intro; refine ⟨fun ww => ?_, ?_⟩; (focus (unfold calmAt calmUpon; go_simp; rfl)); (simp only [Act.put, List.setIfInBounds_toArray, List.set_cons_succ, List.set_cons_zero]))
  (refine chain_load rfl rfl 1 (by simp) ?_; apply Exists.intro; refine ⟨fun k ww hk hww => ?_, ?_⟩; (focus (have e := wsq_lt1 hk hww; subst e; unfold calmAt calmUpon; go_simp; rfl)); (simp only [Act.put, List.setIfInBounds_toArray, List.set_cons_succ, List.set_cons_zero]))
  iterate 2 (refine chain_pure rfl rfl ?_; apply Exists.intro; refine ⟨fun ww => ?_, ?_⟩; (focus (unfold calmAt calmUpon; go_simp; rfl)); (simp only [Act.put, List.setIfInBounds_toArray, List.set_cons_succ, List.set_cons_zero]))
  (refine chain_load rfl rfl 1 (by simp) ?_; apply Exists.intro; refine ⟨fun k ww hk hww => ?_, ?_⟩; (focus (have e := wsq_lt1 hk hww; subst e; unfold calmAt calmUpon; go_simp; rfl)); (simp only [Act.put, List.setIfInBounds_toArray, List.set_cons_succ, List.set_cons_zero]))
  iterate 4 (refine chain_pure rfl rfl ?_; apply Exists.intro; refine ⟨fun ww => ?_, ?_⟩; (focus (unfold calmAt calmUpon; go_simp; rfl)); (simp only [Act.put, List.setIfInBounds_toArray, List.set_cons_succ, List.set_cons_zero]))
  (refine chain_load rfl rfl 1 (by simp) ?_; apply Exists.intro; refine ⟨fun k ww hk hww => ?_, ?_⟩; (focus (have e := wsq_lt1 hk hww; subst e; unfold calmAt calmUpon; go_simp; rfl)); (simp only [Act.put, List.setIfInBounds_toArray, List.set_cons_succ, List.set_cons_zero]))
  iterate 2 (refine chain_pure rfl rfl ?_; apply Exists.intro; refine ⟨fun ww => ?_, ?_⟩; (focus (unfold calmAt calmUpon; go_simp; rfl)); (simp only [Act.put, List.setIfInBounds_toArray, List.set_cons_succ, List.set_cons_zero]))
  (refine chain_load rfl rfl 1 (by simp) ?_; apply Exists.intro; refine ⟨fun k ww hk hww => ?_, ?_⟩; (focus (have e := wsq_lt1 hk hww; subst e; unfold calmAt calmUpon; go_simp; rfl)); (simp only [Act.put, List.setIfInBounds_toArray, List.set_cons_succ, List.set_cons_zero]))
  iterate 3 (refine chain_pure rfl rfl ?_; apply Exists.intro; refine ⟨fun ww => ?_, ?_⟩; (focus (unfold calmAt calmUpon; go_simp; rfl)); (simp only [Act.put, List.setIfInBounds_toArray, List.set_cons_succ, List.set_cons_zero]))
  refine chain_write (by kernel_rfl) rfl 0 rfl (by rfl) ?_
  apply Exists.intro
  refine ⟨fun ww hww => ?_, ?_⟩
  focus
    have e := wsq_lt1 (Nat.zero_lt_one) hww
    subst e
    unfold calmAt calmUpon
    go_simp
    refine ⟨rfl, ?_⟩
    rw [HW3.out]
    rfl
  (simp only [Act.put, List.setIfInBounds_toArray, List.set_cons_succ, List.set_cons_zero])
  refine calm_nil ?_
  intro ww hww
  have e : W3 = ww := by simpa [wsq] using hww
  subst e
  clear hww o0 o1 o2 o3 tmd tm0 cg cb fb
  obtain ⟨o0, o1, o2, o3, -⟩ := cells4 tm
  go_wp2_with fail
  refine HNT.out.mono ?_
  rintro e W4 ⟨N3, rfl, T⟩
  have hz3 : w.heap.size + 1 < W3.heap.size := (Array.getElem?_eq_some_iff.1 t1).1
  have y4 := (T.2.2.2.2.2.2.2.2.2.block (w.heap.size + 1) hz3 (fun e => by have := nve _ e.symm; omega)).trans t1
  obtain ⟨⟨q1, q2, q3, e1⟩, ⟨q4, q5, q6, e2⟩, ⟨q7, q8, q9, e3⟩, ⟨q10, q11, q12, e4⟩⟩ := T.1.forms
  have hv3 : N3.val = .agg #[.slice q1 q2 q3, .slice q4 q5 q6, .slice q7 q8 q9, .slice q10 q11 q12] := by unfold RNet.val; rw [e1, e2, e3, e4]
  have HE := END.out W4 N3 T
  rw [e1, e2, e3, e4] at HE
  have HE2 := Lib.hid (HE _ rfl _ hv3.symm)
  rw [hv3]
  obtain ⟨l0, l1, l2', l3', fl⟩ := cells4 y4
  clear T END t1 hv3 e1 e2 e3 e4 HE o0 o1 o2 o3
  go_wp2_with fail
  exact bodyPost_ret (v := .tuple #[.agg #[.slice q1 q2 q3, .slice q4 q5 q6, .slice q7 q8 q9, .slice q10 q11 q12], .int .i64 0]) (by simp [results, Try.results49, go_sem, l0, l1, l2', l3']) rfl HE2.out
end Go.Proofs.Ytiindnmelegkgaa
end
/- The reference's Block. -/
section
namespace Go.Proofs.Ytiindnmelegkgaa
open Go.RowKit
set_option linter.unusedSimpArgs false
set_option linter.unusedVariables false

def keepP (f t : ByteArray) (l : List (ByteArray × ByteArray)) : List (ByteArray × ByteArray) := l.filter fun x => !pairB x.1 x.2 f t
theorem keepP_take (f t : ByteArray) (l : List (ByteArray × ByteArray)) (k : Nat) (x : ByteArray × ByteArray) (h : l[k]? = some x) : keepP f t (l.take (k + 1)) = keepP f t (l.take k) ++ if pairB x.1 x.2 f t then [] else [x] := by
  obtain ⟨hk, rfl⟩ := List.getElem?_eq_some_iff.1 h
  rw [List.take_succ_eq_append_getElem hk]
  unfold keepP
  rw [List.filter_append]
  cases hp : pairB l[k].1 l[k].2 f t <;> simp [List.filter_cons, hp]
theorem keepP_len (f t : ByteArray) (l : List (ByteArray × ByteArray)) : (keepP f t l).length ≤ l.length := List.length_filter_le _ _
def tailP (off : Bool) (f t : ByteArray) : List (ByteArray × ByteArray) := if off then [] else [(f, t)]
def RAbs.block (A : RAbs) (f t : ByteArray) (off : Bool) : RAbs × Int := if (hostB f && hostB t) = false then (A, 2) else (⟨A.all, A.hist, A.evs, keepP f t A.blk ++ tailP off f t⟩, 0)

theorem bp_one (x : ByteArray × ByteArray) : ∀ u ∈ bpCells x, u.oneCell' = true := by
  intro u hu
  simp [bpCells] at hu
  rcases hu with rfl | rfl <;> rfl

/-- One pair is appended. -/
theorem app_pair (w : World) (v : Value) (l : List (ByteArray × ByteArray)) (hown : w.ownsRow 0 82 2 v l.length (l.flatMap bpCells)) (hl : l.length ≤ 1000000) (f t : ByteArray) :
    ∃ g cap w', (Builtin.append_ #[62, 62] 62 #[v, .slice (some ⟨w.heap.size, 0, none⟩) 1 1]).run Try.prog (w.alloc (.cells #[.string f, .string t] 82)) = .ok (.slice (some ⟨g, 0, none⟩) (l.length + 1) cap) w' ∧
      w'.ownsRow 0 82 2 (.slice (some ⟨g, 0, none⟩) (l.length + 1) cap) (l ++ [(f, t)]).length ((l ++ [(f, t)]).flatMap bpCells) ∧ (w.alloc (.cells #[.string f, .string t] 82)).grownBy w' v.ownBlock ∧ (v.ownBlock = some g ∨ g = w.heap.size + 1) := by
  obtain ⟨g, cap, w', h1, h2, h3, h4, h5⟩ := append_one w 62 82 _ 2 32 u62 info82 rfl (by decide) (by decide) v l.length _ hown (bpCells (f, t)) rfl (bp_one _) (by omega)
  exact ⟨g, cap, w', h1, by simpa using h2, h3, h4⟩

set_option maxHeartbeats 2000000 in
set_option maxRecDepth 100000 in
theorem rblock_bad (N : RNet) (w : World) (R : ROk w N) (S : RSmall N) (f t : ByteArray) (off : Bool) (hb : (hostB f && hostB t) = false) :
    Calls Try.prog 51 #[N.val, .string f, .string t, .bool off] w (ROut0 w N N.abs 2) := by
  have HT : Hid (∀ (W2 : World) (er : Int) v, v = N.val → Below w.heap.size w W2 → ROut0 w N N.abs er (.returned (.tuple #[v, .int .i64 er])) W2) := Lib.hid fun W2 er v hv hb => ⟨N, by rw [hv], RNext.refl R hb, rfl⟩
  obtain ⟨⟨a1, n1, k1, ha1⟩, ⟨a2, n2, k2, ha2⟩, ⟨a3, n3, k3, ha3⟩, ⟨a4, n4, k4, ha4⟩⟩ := R.forms
  have HVAL : Hid (N.val = .agg #[.slice a1 n1 k1, .slice a2 n2 k2, .slice a3 n3 k3, .slice a4 n4 k4]) := Lib.hid (by unfold RNet.val; rw [ha1, ha2, ha3, ha4])
  rw [HVAL.out]
  clear R S ha1 ha2 ha3 ha4
  cases hf : hostB f
  · go_enter Try.func51, Try.ntmps51
    go_wp2_with fail
    refine (rhost_any _ _).mono ?_
    rintro e w1 ⟨rfl, rfl⟩
    rw [hf]
    go_wp2_with fail
    exact bodyPost_ret (v := .tuple #[.agg #[.slice a1 n1 k1, .slice a2 n2 k2, .slice a3 n3 k3, .slice a4 n4 k4], .int .i64 2]) (by simp [results, Try.results51, go_sem]) rfl
      (HT.out _ 2 _ HVAL.out.symm (((Below.refl _ _).alloc (Nat.le_refl _) _).alloc (by simp) _))
  · have ht : hostB t = false := by simpa [hf] using hb
    go_enter Try.func51, Try.ntmps51
    go_wp2_with fail
    refine (rhost_any _ _).mono ?_
    rintro e w1 ⟨rfl, rfl⟩
    rw [hf]
    go_wp2_with fail
    refine (rhost_any _ _).mono ?_
    rintro e w1 ⟨rfl, rfl⟩
    rw [ht]
    go_wp2_with fail
    exact bodyPost_ret (v := .tuple #[.agg #[.slice a1 n1 k1, .slice a2 n2 k2, .slice a3 n3 k3, .slice a4 n4 k4], .int .i64 2]) (by simp [results, Try.results51, go_sem]) rfl
      (HT.out _ 2 _ HVAL.out.symm (((Below.refl _ _).alloc (Nat.le_refl _) _).alloc (by simp) _))

/-- What has been kept after k rounds. -/
structure Kept (w wr : World) (N : RNet) (f t : ByteArray) (v : Value) (l : List (ByteArray × ByteArray)) : Prop where
  b : Below w.heap.size w wr
  x0 : wr.heap[w.heap.size]? = some (.cells #[N.va, N.vh, N.ve, N.vb] 64 (0, 0))
  x1 : wr.heap[w.heap.size + 1]? = some (.cells #[.slice none 0 0, .slice none 0 0, .slice none 0 0, .slice none 0 0] 64 (0, 0))
  row : wr.ownsRow 0 82 2 v l.length (l.flatMap bpCells)
  far : ∀ b, v.ownBlock = some b → w.heap.size + 2 ≤ b
theorem Kept.app {w wr W2 : World} {N : RNet} {f t : ByteArray} {v : Value} {l : List (ByteArray × ByteArray)} (h : Kept w wr N f t v l) {x y : ByteArray} {g cap : Nat} (h2 : W2.ownsRow 0 82 2 (.slice (some ⟨g, 0, none⟩) (l.length + 1) cap) (l ++ [(x, y)]).length ((l ++ [(x, y)]).flatMap bpCells))
    (h3 : (wr.alloc (.cells #[.string x, .string y] 82)).grownBy W2 v.ownBlock) (h4 : v.ownBlock = some g ∨ g = wr.heap.size + 1) : Kept w W2 N f t (.slice (some ⟨g, 0, none⟩) (l.length + 1) cap) (l ++ [(x, y)]) := by
  have hz := h.b.size
  have h1 := (Array.getElem?_eq_some_iff.1 h.x1).1
  have e : ∀ b, b < w.heap.size + 2 → W2.heap[b]? = wr.heap[b]? := fun b hb => by
    rw [h3.block b (by simp; omega) (fun e => by have := h.far b e.symm; omega), old_at (by omega)]
  refine ⟨(h.b.alloc hz _).grown h3 (by simp; omega) (fun k e => by have := h.far k e; omega), (e _ (by omega)).trans h.x0, (e _ (by omega)).trans h.x1, h2, fun b hb => ?_⟩
  rw [ob_eq hb]
  rcases h4 with h4 | h4
  · exact h.far g h4
  · omega

set_option maxHeartbeats 4000000 in
set_option maxRecDepth 100000 in
theorem rblock_ok (N : RNet) (w : World) (R : ROk w N) (S : RSmall N) (f t : ByteArray) (off : Bool) (hf : hostB f = true) (ht : hostB t = true) :
    Calls Try.prog 51 #[N.val, .string f, .string t, .bool off] w (ROut0 w N ⟨N.abs.all, N.abs.hist, N.evs, keepP f t N.blk ++ tailP off f t⟩ 0) := by
  obtain ⟨W0, hW0⟩ : ∃ W0, W0 = (w.alloc (.cells #[N.va, N.vh, N.ve, N.vb] 64)).alloc (.cells #[.slice none 0 0, .slice none 0 0, .slice none 0 0, .slice none 0 0] 64) := ⟨_, rfl⟩
  have b0 : Below w.heap.size w W0 := by rw [hW0]; exact ((Below.refl _ _).alloc (Nat.le_refl _) _).alloc (by simp) _
  have x0 : W0.heap[w.heap.size]? = some (.cells #[N.va, N.vh, N.ve, N.vb] 64 (0, 0)) := by rw [hW0, old_at (by simp)]; exact new_at rfl
  have x1 : W0.heap[w.heap.size + 1]? = some (.cells #[.slice none 0 0, .slice none 0 0, .slice none 0 0, .slice none 0 0] 64 (0, 0)) := by rw [hW0]; exact new_at (by simp)
  have K0 : Hid (Kept w W0 N f t (.slice none 0 0) (keepP f t (N.blk.take 0))) := Lib.hid ⟨b0, x0, x1, World.ownsRow_nil _ _ _ _, by simp [Value.ownBlock]⟩
  obtain ⟨⟨a1, n1, k1, ha1⟩, ⟨a2, n2, k2, ha2⟩, ⟨a3, n3, k3, ha3⟩, -⟩ := R.forms
  obtain ⟨ab, ac, hvb⟩ := row_slice R.b
  obtain ⟨n, hn⟩ : ∃ n, N.blk.length = n := ⟨_, rfl⟩
  have hnb := S.blk
  rw [hn] at hvb hnb
  have HVAL : Hid (N.val = .agg #[.slice a1 n1 k1, .slice a2 n2 k2, .slice a3 n3 k3, .slice ab n ac]) := Lib.hid (by unfold RNet.val; rw [ha1, ha2, ha3, hvb])
  have HEND : Hid (∀ wr v l W2 u, Kept w wr N f t v l → l = (keepP f t N.blk ++ tailP off f t) → u = .agg #[N.va, N.vh, N.ve, v] → W2 = (((((wr.setCell ⟨w.heap.size, 3, none⟩ v).setCell ⟨w.heap.size + 1, 0, none⟩ N.va).setCell ⟨w.heap.size + 1, 1, none⟩ N.vh).setCell ⟨w.heap.size + 1, 2, none⟩ N.ve).setCell ⟨w.heap.size + 1, 3, none⟩ v) →
      ROut0 w N ⟨N.abs.all, N.abs.hist, N.evs, keepP f t N.blk ++ tailP off f t⟩ 0 (.returned (.tuple #[u, .int .i64 0])) W2) := Lib.hid fun wr v l W2 u hK hl hu hW2 => by
    have up : ∀ b, b ≠ w.heap.size → b ≠ w.heap.size + 1 → W2.heap[b]? = wr.heap[b]? := fun b h1 h2 => by rw [hW2, box4_other _ _ _ _ h2, set_other h1]
    have hb2 : Below w.heap.size w W2 := by
      rw [hW2]
      exact (hK.b.setCell (p := ⟨_, _, _⟩) (by simp) _).trans (box4_below (by omega) _ _ _ _)
    have old : ∀ b, b < w.heap.size → W2.heap[b]? = w.heap[b]? := fun b hb => hb2.block b hb
    refine ⟨{ N with blk := l, vb := v }, by rw [hu]; rfl, ⟨⟨row_stays R.a fun b hb => old b (R.a.lt b hb).2, row_stays R.h fun b hb => old b (R.h.lt b hb).2, row_stays R.e fun b hb => old b (R.e.lt b hb).2, ?_, fun x hx => row_stays (R.ab x hx) fun b hb => old b ((R.ab x hx).lt b hb).2, fun x hx => row_stays (R.hb x hx) fun b hb => old b ((R.hb x hx).lt b hb).2, R.aok, R.hok⟩, hb2, fun b hb => ?_⟩, by rw [hl]; rfl⟩
    · exact row_stays hK.row fun b hb => up b (by have := hK.far b hb; omega) (by have := hK.far b hb; omega)
    · rcases hb with h | h | h | h | h | h
      · exact .inl (.inl h)
      · exact .inl (.inr (.inl h))
      · exact .inl (.inr (.inr (.inl h)))
      · right; have := hK.far b h; omega
      · exact .inl (.inr (.inr (.inr (.inr (.inl h)))))
      · exact .inl (.inr (.inr (.inr (.inr (.inr h)))))
  rw [HVAL.out]
  have HR := Lib.hid R
  have HN := Lib.hid hn
  have HA1 := Lib.hid ha1
  have HA2 := Lib.hid ha2
  have HA3 := Lib.hid ha3
  have HVB := Lib.hid hvb
  have HF := Lib.hid hf
  have HTT := Lib.hid ht
  rw [ha1, ha2, ha3, hvb] at hW0
  have HW0 := Lib.hid hW0
  have q82 := neq82
  clear R S hn hf ht b0 x0 x1 ha1 ha2 ha3 hvb hW0
  go_enter Try.func51, Try.ntmps51
  go_wp2_with fail
  refine (rhost_any _ _).mono ?_
  rintro e w1 ⟨rfl, rfl⟩
  rw [HF.out]
  go_wp2_with fail
  refine (rhost_any _ _).mono ?_
  rintro e w1 ⟨rfl, rfl⟩
  rw [HTT.out]
  rw [← HW0.out]
  go_wp2_with fail
  go_loopw [10, 11] (fun v i wr => ∃ k : Nat, k ≤ n ∧ i = .int .i64 k ∧ Kept w wr N f t v (keepP f t (N.blk.take k))) (fun _ i _ => n - (intOf i).toNat)
  case atStart => exact ⟨0, Nat.zero_le _, rfl, K0.out⟩
  case round =>
    obtain ⟨k, hk, rfl, hK⟩ := hrel
    obtain ⟨va, vc, hv⟩ := row_slice hK.row
    have hkl : (keepP f t (N.blk.take k)).length ≤ 1000000 := Nat.le_trans (keepP_len _ _ _) (by rw [List.length_take]; omega)
    have xx0 := hK.x0
    rw [HA1.out, HA2.out, HA3.out, HVB.out] at xx0
    obtain ⟨i0, i1, i2, i3, fi⟩ := cells4 xx0
    by_cases hlt : k < n
    · obtain ⟨x, hx⟩ : ∃ x, N.blk[k]? = some x := ⟨N.blk[k]'(by rw [HN.out]; omega), List.getElem?_eq_getElem _⟩
      have ra := (HR.out.below hK.b).b
      obtain ⟨gb, rfl⟩ : ∃ g, ab = some ⟨g, 0, none⟩ := by
        obtain ⟨g, c, h⟩ := slice_box HR.out.b (by rw [HN.out]; omega)
        rw [HVB.out] at h
        cases h
        exact ⟨g, rfl⟩
      rw [HVB.out, HN.out] at ra
      have m0 := el_at (f := bpCells) (fun _ => rfl) ra hx HN.out 0 (by decide)
      have m1 := el_at (f := bpCells) (fun _ => rfl) ra hx HN.out 1 (by decide)
      simp only [bpCells, List.getElem?_cons_succ, List.getElem?_cons_zero, Nat.add_zero] at m0 m1
      have HCS := Lib.hid (keepP_take f t _ _ _ hx)
      clear ra hx
      cases hp : pairB x.1 x.2 f t
      · obtain ⟨g, cap, W2, run, r2, g2, l2⟩ := app_pair wr _ _ hK.row hkl x.1 x.2
        have hK2 := hK.app r2 g2 l2
        rw [hv] at run
        have HK2 := Lib.hid hK2
        have HRUN := Lib.hid run
        rw [hp] at HCS
        generalize (keepP f t (N.blk.take k)).length = pl at *
        subst hv
        clear run r2 g2 l2 hK2 hK
        go_wp2_with (at_builtin; refine wpList_append_run rfl _ _ 62 rfl _ _ rfl rfl HRUN.out ?_)
        go_roundw
        case rel => exact ⟨k + 1, by omega, by simp, by rw [HCS.out]; exact HK2.out⟩
        case measure => simp [intOf]; omega
      · rw [hp] at HCS
        have HK := Lib.hid hK
        generalize (keepP f t (N.blk.take k)).length = pl at hv
        subst hv
        clear hK
        go_wp2_with fail
        go_roundw
        case rel => exact ⟨k + 1, by omega, by simp, by rw [HCS.out]; simpa using HK.out⟩
        case measure => simp [intOf]; omega
    · obtain rfl : k = n := by omega
      have hall : N.blk.take k = N.blk := List.take_of_length_le (by rw [HN.out]; exact Nat.le_refl _)
      rw [hall] at hK hv hkl
      obtain ⟨l0, l1, l2, l3, fl⟩ := cells4 hK.x1
      cases off
      · obtain ⟨g, cap, W2, run, r2, g2, l2'⟩ := app_pair wr _ _ hK.row hkl f t
        have hK2 := hK.app r2 g2 l2'
        have xx2 := hK2.x0
        rw [HA1.out, HA2.out, HA3.out, HVB.out] at xx2
        have xy2 := hK2.x1
        have HE := HEND.out W2 _ _ _ _ hK2 (by simp [tailP]) rfl rfl
        rw [HA1.out, HA2.out, HA3.out] at HE
        have HE2 := Lib.hid HE
        rw [hv] at run
        have HRUN := Lib.hid run
        generalize (keepP f t N.blk).length = pl at *
        subst hv
        clear run r2 g2 l2' hK2 hK HE HEND i0 i1 i2 i3 fi l0 l1 l2 l3 fl hall
        obtain ⟨i0, i1, i2, i3, fi⟩ := cells4 xx2
        obtain ⟨l0, l1, l2, l3, fl⟩ := cells4 xy2
        have cw := xx0
        obtain ⟨j0, j1, j2, j3, fj⟩ := cells4 cw
        go_wp2_with (at_builtin; refine wpList_append_run rfl _ _ 62 rfl _ _ rfl rfl HRUN.out ?_)
        exact bodyPost_ret (v := .tuple #[.agg #[.slice a1 n1 k1, .slice a2 n2 k2, .slice a3 n3 k3, .slice (some ⟨g, 0, none⟩) (pl + 1) cap], .int .i64 0]) (by simp [results, Try.results51, go_sem, l0, l1, l2, l3]) rfl HE2.out
      · have HE := HEND.out wr _ _ _ _ hK (by simp [tailP]) rfl rfl
        rw [HA1.out, HA2.out, HA3.out, hv] at HE
        have HE2 := Lib.hid HE
        generalize (keepP f t N.blk).length = pl at *
        subst hv
        clear hK HE HEND hall
        go_wp2_with fail
        exact bodyPost_ret (v := .tuple #[.agg #[.slice a1 n1 k1, .slice a2 n2 k2, .slice a3 n3 k3, .slice va pl vc], .int .i64 0]) (by simp [results, Try.results51, go_sem, l0, l1, l2, l3]) rfl HE2.out
end Go.Proofs.Ytiindnmelegkgaa
end
