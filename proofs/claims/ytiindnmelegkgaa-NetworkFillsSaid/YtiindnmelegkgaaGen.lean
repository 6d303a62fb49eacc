/- same, Genuine. -/
import Derived.Test.YtiindnmelegkgaaSame
namespace Go.Proofs.Ytiindnmelegkgaa
open Go.RowKit
set_option linter.unusedSimpArgs false
set_option linter.unusedVariables false

/-- Two packets are equal. -/
def sameB (a b : Pk) : Bool := (a.frm.toList == b.frm.toList) && (a.to.toList == b.to.toList) && decide (a.bs = b.bs)

set_option maxRecDepth 100000 in
theorem same_any (a b : Pk) (w : World) (ha : rdB w a.bv a.bs) (hb : rdB w b.bv b.bs) : Calls Try.prog 39 #[a.val, b.val] w fun e w' => e = .returned (.bool (sameB a b)) ∧ Below w.heap.size w w' := by
  obtain ⟨W, hW⟩ : ∃ W, W = (w.alloc (.cells #[.string a.frm, .string a.to, a.bv] 35)).alloc (.cells #[.string b.frm, .string b.to, b.bv] 35) := ⟨_, rfl⟩
  have b0 : Below w.heap.size w W := by rw [hW]; exact ((Below.refl _ _).alloc (Nat.le_refl _) _).alloc (by simp) _
  have hz : w.heap.size ≤ W.heap.size := b0.size
  have HC := Lib.hid (equal_any a.bv b.bv a.bs b.bs W (ha.below b0) (hb.below b0))
  obtain ⟨a1, n1, c1, hv1, -⟩ := ha.lt
  obtain ⟨a2, n2, c2, hv2, -⟩ := hb.lt
  have HB := Lib.hid b0
  have HW := Lib.hid hW
  clear ha hb b0 hW
  obtain ⟨af, at_, av, abs⟩ := a
  obtain ⟨bf, bt, bv, bbs⟩ := b
  dsimp only at *
  subst hv1
  subst hv2
  unfold Pk.val sameB
  dsimp only
  cases h1 : (af.toList == bf.toList)
  · go_enter Try.func39, Try.ntmps39
    go_wp2
    go_ret
    refine ⟨by simp, ?_⟩
    rw [← HW.out]
    exact HB.out
  · cases h2 : (at_.toList == bt.toList)
    · go_enter Try.func39, Try.ntmps39
      go_wp2
      go_ret
      refine ⟨by simp, ?_⟩
      rw [← HW.out]
      exact HB.out
    · go_enter Try.func39, Try.ntmps39
      go_wp2_with fail
      rw [← HW.out]
      refine HC.out.mono ?_
      rintro e w1 ⟨rfl, hb⟩
      go_wp2
      go_ret
      exact ⟨by simp, HB.out.trans (hb.mono hz)⟩

/-- One call that leaves all that was. -/
def callC (W : World) (k : Nat) (w' : World) : Prop := if k = 0 then w' = W.drew else Below W.heap.size W w'
theorem callC_0 {W : World} : callC W 0 W.drew := by simp [callC]
theorem callC_lt1 {W : World} {k : Nat} {w : World} (h : k < 1) (hw : callC W k w) : w = W.drew := by
  obtain rfl : k = 0 := by omega
  simpa [callC] using hw
theorem callC_1 {W w' : World} (h : Below W.heap.size W w') : callC W 1 w' := by simpa [callC] using h
theorem callC_1' {W w' : World} (h : callC W 1 w') : Below W.heap.size W w' := by simpa [callC] using h

theorem rd_len {p : Pk} (hv : validB p = true) : p.bs.length ≤ 1099511627776 := by
  simp only [validB, Bool.and_eq_true, decide_eq_true_eq] at hv; omega

set_option maxHeartbeats 1000000 in
set_option maxRecDepth 100000 in
/-- A packet in flight with a source. -/
theorem genuine_src {ρ : Nat → Nat} {w : World} {p : Nat} {N : Net} (R : Rep ρ w p N) (S : Small N) {id : Int} {i : Nat} {x : Fl} (h : Hits N.fl id i x) (k : Nat) (hk : x.src = k) (q : Pk) (hq : N.hist[k]? = some q) :
    Calls Try.prog 16 #[.pointer (some ⟨p, 0, none⟩), .int .i64 id] w fun e w' => e = .returned (.tuple #[.bool (sameB x.p q), .int .i64 0]) ∧ Below w.heap.size w w' := by
  have HC := Lib.hid (index_hit R S h)
  have HR := Lib.hid R
  have HX := Lib.hid h.1
  have HQ := Lib.hid hq
  have hil : i < N.fl.length := (List.getElem?_eq_some_iff.1 h.1).1
  have hkl : k < N.hist.length := (List.getElem?_eq_some_iff.1 hq).1
  obtain ⟨g, cap, cur, hvf, -⟩ := row_addr R.f (by omega)
  obtain ⟨gh, hcap, hcur, hvh, -⟩ := row_addr R.h (by omega)
  obtain ⟨n, hn⟩ : ∃ n, N.fl.length = n := ⟨_, rfl⟩
  obtain ⟨nh, hnh⟩ : ∃ n, N.hist.length = n := ⟨_, rfl⟩
  obtain ⟨ba, bc, hbv⟩ := ownB_slice (R.fb x (List.mem_of_getElem? h.1))
  obtain ⟨l, hl⟩ : ∃ l, x.p.bs.length = l := ⟨_, rfl⟩
  rw [hl] at hbv
  rw [hn] at hvf hil
  rw [hnh] at hvh hkl
  clear R S h hq
  go_enter Try.func16, Try.ntmps16
  go_wp2_with fail
  refine HC.out.mono ?_
  rintro e w1 ⟨rfl, hb⟩
  have R1 := HR.out.below hb
  obtain ⟨c0, c1, c2, c3, c4, fr⟩ := net_cells R1
  rw [hvf] at c0
  rw [hvh] at c1
  have rf1 := R1.f
  rw [hvf, hn] at rf1
  have rh1 := R1.h
  rw [hvh, hnh] at rh1
  have m0 := fl_at rf1 HX.out hn 0 (by decide)
  have m1 := fl_at rf1 HX.out hn 1 (by decide)
  have m2 := fl_at rf1 HX.out hn 2 (by decide)
  have m3 := fl_at rf1 HX.out hn 3 (by decide)
  have m4 := fl_at rf1 HX.out hn 4 (by decide)
  simp [Fl.cells, hk, hbv] at m0 m1 m2 m3 m4
  clear c2 c3 c4 fr
  go_wp2_with fail
  have hg0 := (R1.lt (b := g) (by rw [R1.rf g (by rw [hvf]; rfl)]; decide))
  have hp0 := (R1.lt (b := p) (by rw [R1.rp]; decide))
  have hh0 := (R1.lt (b := gh) (by rw [R1.rh gh (by rw [hvh]; rfl)]; decide))
  have hxm := List.mem_of_getElem? HX.out
  have hqm := List.mem_of_getElem? HQ.out
  obtain ⟨W2, hW2⟩ : ∃ W2, W2 = w1.alloc (.cells #[.string x.p.frm, .string x.p.to, .slice ba l bc, .int .i64 x.id, .int .i64 k] 81) := ⟨_, rfl⟩
  have b2 : Below w1.heap.size w1 W2 := by rw [hW2]; exact (Below.refl _ _).alloc (Nat.le_refl _) _
  have x2 : W2.heap[w1.heap.size]? = some (.cells #[.string x.p.frm, .string x.p.to, .slice ba l bc, .int .i64 x.id, .int .i64 k] 81 (0, 0)) := by rw [hW2]; exact new_at rfl
  have R2 := R1.below b2
  have rq : rdB W2.drew x.p.bv x.p.bs := ownB_rd (R2.fb x hxm) (rd_len (R2.fok x hxm))
  have rh : rdB W2.drew q.bv q.bs := ownB_rd (R2.hb q hqm) (rd_len (R2.hok q hqm))
  have HS := Lib.hid (same_any x.p q W2.drew rq rh)
  obtain ⟨d0, d1, d2, d3, d4, fr⟩ := net_cells R2
  rw [hvh] at d1
  have rh2 := R2.h
  rw [hvh, hnh] at rh2
  have j0 := hist_at rh2 HQ.out hnh 0 (by decide)
  have j1 := hist_at rh2 HQ.out hnh 1 (by decide)
  have j2 := hist_at rh2 HQ.out hnh 2 (by decide)
  simp [Pk.cells] at j0 j1 j2
  have y0 := cell_of_row W2 _ 0 _ _ _ x2
  have y1 := cell_of_row W2 _ 1 _ _ _ x2
  have y2 := cell_of_row W2 _ 2 _ _ _ x2
  have y4 := cell_of_row W2 _ 4 _ _ _ x2
  simp at y0 y1 y2 y4
  have HB := Lib.hid (b2.mono hb.size |> hb.trans)
  have hs2 : w.heap.size ≤ W2.heap.size := by have := hb.size; have := b2.size; omega
  rw [← hW2]
  clear rq rh d0 d2 d3 d4 fr rh2 R2 R1 b2 x2 hW2 m0 m1 m2 m3 m4 rf1 rh1 c0 c1 hb hg0 hp0 hh0
  refine wp_region_chain (callC W2) [14] [(1, 1), (5, 1), (9, 1), (11, 1), (13, 1)] (by kernel_rfl) (by kernel_rfl) (by kernel_rfl) (by kernel_rfl) callC_0 ?_
  (refine chain_pure rfl rfl ?_; apply Exists.intro; refine ⟨fun ww => ?_, ?_⟩; (focus (unfold calmAt calmUpon; go_simp; rfl)); (simp only [Act.put, List.setIfInBounds_toArray, List.set_cons_succ, List.set_cons_zero]))
  (refine chain_load rfl rfl 1 (by simp) ?_; apply Exists.intro; refine ⟨fun k ww hk hww => ?_, ?_⟩; (focus (have e := callC_lt1 hk hww; subst e; unfold calmAt calmUpon; go_simp; rfl)); (simp only [Act.put, List.setIfInBounds_toArray, List.set_cons_succ, List.set_cons_zero]))
  (refine chain_pure rfl rfl ?_; apply Exists.intro; refine ⟨fun ww => ?_, ?_⟩; (focus (unfold calmAt calmUpon; go_simp; rfl)); (simp only [Act.put, List.setIfInBounds_toArray, List.set_cons_succ, List.set_cons_zero]))
  (refine chain_pure rfl rfl ?_; apply Exists.intro; refine ⟨fun ww => ?_, ?_⟩; (focus (unfold calmAt calmUpon; go_simp; rfl)); (simp only [Act.put, List.setIfInBounds_toArray, List.set_cons_succ, List.set_cons_zero]))
  (refine chain_pure rfl rfl ?_; apply Exists.intro; refine ⟨fun ww => ?_, ?_⟩; (focus (unfold calmAt calmUpon; go_simp; rfl)); (simp only [Act.put, List.setIfInBounds_toArray, List.set_cons_succ, List.set_cons_zero]))
  (refine chain_load rfl rfl 1 (by simp) ?_; apply Exists.intro; refine ⟨fun k ww hk hww => ?_, ?_⟩; (focus (have e := callC_lt1 hk hww; subst e; unfold calmAt calmUpon; go_simp; rfl)); (simp only [Act.put, List.setIfInBounds_toArray, List.set_cons_succ, List.set_cons_zero]))
  iterate 3 (refine chain_pure rfl rfl ?_; apply Exists.intro; refine ⟨fun ww => ?_, ?_⟩; (focus (unfold calmAt calmUpon; go_simp; rfl)); (simp only [Act.put, List.setIfInBounds_toArray, List.set_cons_succ, List.set_cons_zero]))
  (refine chain_load rfl rfl 1 (by simp) ?_; apply Exists.intro; refine ⟨fun k ww hk hww => ?_, ?_⟩; (focus (have e := callC_lt1 hk hww; subst e; unfold calmAt calmUpon; go_simp; rfl)); (simp only [Act.put, List.setIfInBounds_toArray, List.set_cons_succ, List.set_cons_zero]))
  (refine chain_pure rfl rfl ?_; apply Exists.intro; refine ⟨fun ww => ?_, ?_⟩; (focus (unfold calmAt calmUpon; go_simp; rfl)); (simp only [Act.put, List.setIfInBounds_toArray, List.set_cons_succ, List.set_cons_zero]))
  (refine chain_load rfl rfl 1 (by simp) ?_; apply Exists.intro; refine ⟨fun k ww hk hww => ?_, ?_⟩; (focus (have e := callC_lt1 hk hww; subst e; unfold calmAt calmUpon; go_simp; rfl)); (simp only [Act.put, List.setIfInBounds_toArray, List.set_cons_succ, List.set_cons_zero]))
  (refine chain_pure rfl rfl ?_; apply Exists.intro; refine ⟨fun ww => ?_, ?_⟩; (focus (unfold calmAt calmUpon; go_simp; rfl)); (simp only [Act.put, List.setIfInBounds_toArray, List.set_cons_succ, List.set_cons_zero]))
  (refine chain_load rfl rfl 1 (by simp) ?_; apply Exists.intro; refine ⟨fun k ww hk hww => ?_, ?_⟩; (focus (have e := callC_lt1 hk hww; subst e; unfold calmAt calmUpon; go_simp; rfl)); (simp only [Act.put, List.setIfInBounds_toArray, List.set_cons_succ, List.set_cons_zero]))
  refine chain_write (by kernel_rfl) rfl 0 rfl (by rfl) ?_
  apply Exists.intro
  refine ⟨fun ww hww => ?_, ?_⟩
  focus
    have e := callC_lt1 (Nat.zero_lt_one) hww
    subst e
    unfold calmAt calmUpon
    go_simp
    have hs := HS.out
    unfold Pk.val at hs
    rw [hbv] at hs
    refine hs.mono ?_
    rintro e w1 ⟨rfl, hb1⟩
    exact ⟨rfl, callC_1 ⟨hb1.os, hb1.tape, hb1.output, hb1.size, hb1.block⟩⟩
  (simp only [Act.put, List.setIfInBounds_toArray, List.set_cons_succ, List.set_cons_zero])
  iterate 3 (refine chain_pure rfl rfl ?_; apply Exists.intro; refine ⟨fun ww => ?_, ?_⟩; (focus (unfold calmAt calmUpon; go_simp; rfl)); (simp only [Act.put, List.setIfInBounds_toArray, List.set_cons_succ, List.set_cons_zero]))
  refine calm_nil ?_
  intro ww hww
  have hbw := callC_1' hww
  clear hww
  go_wp2
  go_ret2
  exact ⟨by simp, HB.out.trans (hbw.mono hs2)⟩
end Go.Proofs.Ytiindnmelegkgaa
