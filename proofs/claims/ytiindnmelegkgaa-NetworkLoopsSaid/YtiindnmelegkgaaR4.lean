/- The reference's Genuine, noted. -/
import Derived.Test.YtiindnmelegkgaaR3
import Derived.Test.YtiindnmelegkgaaGrow
namespace Go.Proofs.Ytiindnmelegkgaa
open Go.RowKit
set_option linter.unusedSimpArgs false
set_option linter.unusedVariables false

def genuR (N : RNet) (x : RFl) : Bool := decide (0 ≤ x.src) && (match N.hist[x.src.toNat]? with | some q => sameS x.p q | none => false)
theorem bcells {W w : World} {n : Nat} (h : Below n W w) {b i : Nat} {v : Value} (hb : b < n) (hc : W.cell? ⟨b, i, none⟩ = some v) : w.cell? ⟨b, i, none⟩ = some v :=
  (h.cell (p := ⟨b, i, none⟩) hb).trans hc

set_option maxHeartbeats 1000000 in
set_option maxRecDepth 100000 in
theorem rgenuine_any (N : RNet) (w : World) (R : ROk w N) (S : RSmall N) (k : Nat) (x : RFl) (hx : N.all[k]? = some x) (hs : x.src < N.hist.length) :
    Calls Try.prog 27 #[N.val, .int .i64 k] w fun e w' => e = .returned (.bool (genuR N x)) ∧ Below w.heap.size w w' := by
  have hbb : Below w.heap.size w (w.alloc (.cells #[N.va, N.vh, N.ve, N.vb] 64)) := (Below.refl _ _).alloc (Nat.le_refl _) _
  have R1 := R.below hbb
  obtain ⟨n, hn⟩ : ∃ n, N.all.length = n := ⟨_, rfl⟩
  obtain ⟨nh, hnh⟩ : ∃ n, N.hist.length = n := ⟨_, rfl⟩
  have hkl : k < N.all.length := (List.getElem?_eq_some_iff.1 hx).1
  have hkn : k < n := by omega
  have hxm := List.mem_of_getElem? hx
  obtain ⟨g, c, hva⟩ := slice_box R.a (by omega)
  obtain ⟨ba, bc, hbv⟩ := ownB_slice (R.ab x hxm)
  obtain ⟨l, hl⟩ : ∃ l, x.p.bs.length = l := ⟨_, rfl⟩
  have ra := R.a
  rw [hva, hn] at ra
  have m0 := el_at (f := RFl.cells) (fun _ => rfl) ra hx hn 0 (by decide)
  have m1 := el_at (f := RFl.cells) (fun _ => rfl) ra hx hn 1 (by decide)
  have m2 := el_at (f := RFl.cells) (fun _ => rfl) ra hx hn 2 (by decide)
  have m3 := el_at (f := RFl.cells) (fun _ => rfl) ra hx hn 3 (by decide)
  have m4 := el_at (f := RFl.cells) (fun _ => rfl) ra hx hn 4 (by decide)
  simp [RFl.cells, hbv, hl] at m0 m1 m2 m3 m4
  have m0 := fun o => Lib.cell?_alloc_some o m0
  have m1 := fun o => Lib.cell?_alloc_some o m1
  have m2 := fun o => Lib.cell?_alloc_some o m2
  have m3 := fun o => Lib.cell?_alloc_some o m3
  have m4 := fun o => Lib.cell?_alloc_some o m4
  have hgl : g < w.heap.size := (R.a.lt g (by rw [hva]; rfl)).2
  obtain ⟨va, vh, ve, vb, hN⟩ : ∃ va vh ve vb, N.va = va ∧ N.vh = vh ∧ N.ve = ve ∧ N.vb = vb := ⟨_, _, _, _, rfl, rfl, rfl, rfl⟩
  obtain ⟨W, hW⟩ : ∃ W, W = (w.alloc (.cells #[va, vh, ve, vb] 64)).alloc (.cells #[.string x.p.frm, .string x.p.to, .slice ba l bc, .int .i64 x.src, .bool x.gone] 69) := ⟨_, rfl⟩
  have bW : Below w.heap.size w W := by rw [hW]; exact ((Below.refl _ _).alloc (Nat.le_refl _) _).alloc (by simp) _
  have x0 : W.heap[w.heap.size]? = some (.cells #[va, vh, ve, vb] 64 (0, 0)) := by rw [hW, old_at (by simp)]; exact new_at rfl
  have x1 : W.heap[w.heap.size + 1]? = some (.cells #[.string x.p.frm, .string x.p.to, .slice ba l bc, .int .i64 x.src, .bool x.gone] 69 (0, 0)) := by rw [hW]; exact new_at (by simp)
  have zW : W.heap.size = w.heap.size + 2 := by rw [hW]; simp
  have RW := R.below bW
  have HF : Hid (∀ ww, Below W.heap.size W ww → ww.cell? ⟨w.heap.size + 1, 0, none⟩ = some (.string x.p.frm) ∧ ww.cell? ⟨w.heap.size + 1, 1, none⟩ = some (.string x.p.to) ∧ ww.cell? ⟨w.heap.size + 1, 2, none⟩ = some (.slice ba l bc) ∧ ww.cell? ⟨w.heap.size + 1, 3, none⟩ = some (.int .i64 x.src) ∧ ww.cell? ⟨w.heap.size, 1, none⟩ = some vh) := Lib.hid fun ww hww => by
    refine ⟨bcells hww (by omega) ?_, bcells hww (by omega) ?_, bcells hww (by omega) ?_, bcells hww (by omega) ?_, bcells hww (by omega) ?_⟩
    · rw [cell_of_row _ _ _ _ _ _ x1]; rfl
    · rw [cell_of_row _ _ _ _ _ _ x1]; rfl
    · rw [cell_of_row _ _ _ _ _ _ x1]; rfl
    · rw [cell_of_row _ _ _ _ _ _ x1]; rfl
    · rw [cell_of_row _ _ _ _ _ _ x0]; rfl
  have HB := Lib.hid bW
  have HZ : w.heap.size ≤ W.heap.size := by omega
  unfold RNet.val genuR
  rw [hva, hn] at hN
  rw [hva, hn]
  obtain ⟨rfl, rfl, rfl, rfl⟩ := hN
  by_cases h0 : 0 ≤ x.src
  · obtain ⟨j, hj⟩ : ∃ j : Nat, x.src = j := ⟨x.src.toNat, by omega⟩
    obtain ⟨q, hq⟩ : ∃ q, N.hist[j]? = some q := ⟨N.hist[j]'(by omega), List.getElem?_eq_getElem _⟩
    have hqm := List.mem_of_getElem? hq
    obtain ⟨gh, ch, hvh⟩ := slice_box RW.h (by omega)
    obtain ⟨qa, qc, hqv⟩ := ownB_slice (R.hb q hqm)
    obtain ⟨ql, hql⟩ : ∃ l, q.bs.length = l := ⟨_, rfl⟩
    have rh := RW.h
    rw [hvh, hnh] at rh
    have j0 := el_at (f := Pk.cells) (fun _ => rfl) rh hq hnh 0 (by decide)
    have j1 := el_at (f := Pk.cells) (fun _ => rfl) rh hq hnh 1 (by decide)
    have j2 := el_at (f := Pk.cells) (fun _ => rfl) rh hq hnh 2 (by decide)
    simp [Pk.cells, hqv, hql] at j0 j1 j2
    have hghl : gh < W.heap.size := (rh.lt gh rfl).2
    have HJ : Hid (∀ ww, Below W.heap.size W ww → ww.cell? ⟨gh, j * 3, none⟩ = some (.string q.frm) ∧ ww.cell? ⟨gh, j * 3 + 1, none⟩ = some (.string q.to) ∧ ww.cell? ⟨gh, j * 3 + 2, none⟩ = some (.slice qa ql qc)) := Lib.hid fun ww hww =>
      ⟨bcells hww hghl j0, bcells hww hghl j1, bcells hww hghl j2⟩
    have HC : Hid (∀ ww, Below W.heap.size W ww → Calls Try.prog 29 #[.agg #[.string x.p.frm, .string x.p.to, .slice ba l bc], .agg #[.string q.frm, .string q.to, .slice qa ql qc]] ww fun e w' => e = .returned (.bool (sameS x.p q)) ∧ Below ww.heap.size ww w') := Lib.hid fun ww hww => by
      have RX := RW.below hww
      have := rsame_any x.p q ww (ownB_rd (RX.ab x hxm) (rd_len (RX.aok x hxm))) (ownB_rd (RX.hb q hqm) (rd_len (RX.hok q hqm)))
      unfold Pk.val at this
      rw [hbv, hqv, hl, hql] at this
      exact this
    rw [hj] at HF x1 hW m3
    have hjl : j < nh := by omega
    have e1 : (match N.hist[x.src.toNat]? with | some q => sameS x.p q | none => false) = sameS x.p q := by rw [hj, Int.toNat_natCast, hq]
    rw [e1, hvh, hnh]
    rw [hvh, hnh] at HF x0 hW
    have e0 : decide (0 ≤ x.src) = true := by simpa using h0
    rw [e0, Bool.true_and]
    have HW := Lib.hid hW
    clear e0 e1 hj hvh hqv hql j0 j1 j2 rh hghl RW R1 R bW hbb x0 x1 zW hW ra hva hn hx hs hq hbv hl hxm hqm h0 S hnh
    go_enter Try.func27, Try.ntmps27
    go_wp2_with fail
    rw [← HW.out]
    refine wp_region_grow (by kernel_rfl) (by kernel_rfl) ?_
    (refine grow_step rfl ?_; apply Exists.intro; refine ⟨fun ww hww => ?_, ?_⟩; (focus (unfold calmAt calmUpon; go_simp; first | rfl | exact ⟨rfl, hww⟩)); (simp only [Act.put, List.setIfInBounds_toArray, List.set_cons_succ, List.set_cons_zero]))
    (refine grow_step rfl ?_; apply Exists.intro; refine ⟨fun ww hww => ?_, ?_⟩; (focus (have cc := HF.out ww hww; unfold calmAt calmUpon; go_simp; first | rfl | exact ⟨rfl, hww⟩)); (simp only [Act.put, List.setIfInBounds_toArray, List.set_cons_succ, List.set_cons_zero]))
    iterate 3 (refine grow_step rfl ?_; apply Exists.intro; refine ⟨fun ww hww => ?_, ?_⟩; (focus (unfold calmAt calmUpon; go_simp; first | rfl | exact ⟨rfl, hww⟩)); (simp only [Act.put, List.setIfInBounds_toArray, List.set_cons_succ, List.set_cons_zero]))
    (refine grow_step rfl ?_; apply Exists.intro; refine ⟨fun ww hww => ?_, ?_⟩; (focus (have cc := HF.out ww hww; unfold calmAt calmUpon; go_simp; first | rfl | exact ⟨rfl, hww⟩)); (simp only [Act.put, List.setIfInBounds_toArray, List.set_cons_succ, List.set_cons_zero]))
    (refine grow_step rfl ?_; apply Exists.intro; refine ⟨fun ww hww => ?_, ?_⟩; (focus (unfold calmAt calmUpon; go_simp; first | rfl | exact ⟨rfl, hww⟩)); (simp only [Act.put, List.setIfInBounds_toArray, List.set_cons_succ, List.set_cons_zero]))
    (refine grow_step rfl ?_; apply Exists.intro; refine ⟨fun ww hww => ?_, ?_⟩; (focus (have cc := HF.out ww hww; unfold calmAt calmUpon; go_simp; first | rfl | exact ⟨rfl, hww⟩)); (simp only [Act.put, List.setIfInBounds_toArray, List.set_cons_succ, List.set_cons_zero]))
    (refine grow_step rfl ?_; apply Exists.intro; refine ⟨fun ww hww => ?_, ?_⟩; (focus (unfold calmAt calmUpon; go_simp; first | rfl | exact ⟨rfl, hww⟩)); (simp only [Act.put, List.setIfInBounds_toArray, List.set_cons_succ, List.set_cons_zero]))
    (refine grow_step rfl ?_; apply Exists.intro; refine ⟨fun ww hww => ?_, ?_⟩; (focus (have cc := HF.out ww hww; unfold calmAt calmUpon; go_simp; first | rfl | exact ⟨rfl, hww⟩)); (simp only [Act.put, List.setIfInBounds_toArray, List.set_cons_succ, List.set_cons_zero]))
    (refine grow_step rfl ?_; apply Exists.intro; refine ⟨fun ww hww => ?_, ?_⟩; (focus (unfold calmAt calmUpon; go_simp; first | rfl | exact ⟨rfl, hww⟩)); (simp only [Act.put, List.setIfInBounds_toArray, List.set_cons_succ, List.set_cons_zero]))
    (refine grow_step rfl ?_; apply Exists.intro; refine ⟨fun ww hww => ?_, ?_⟩; (focus (have cc := HJ.out ww hww; unfold calmAt calmUpon; go_simp; first | rfl | exact ⟨rfl, hww⟩)); (simp only [Act.put, List.setIfInBounds_toArray, List.set_cons_succ, List.set_cons_zero]))
    (refine grow_step rfl ?_; apply Exists.intro; refine ⟨fun ww hww => ?_, ?_⟩; (focus (unfold calmAt calmUpon; go_simp; refine (HC.out ww hww).mono ?_; rintro e w1 ⟨rfl, hb1⟩; exact ⟨rfl, hww.trans (hb1.mono hww.size)⟩)); (simp only [Act.put, List.setIfInBounds_toArray, List.set_cons_succ, List.set_cons_zero]))
    iterate 2 (refine grow_step rfl ?_; apply Exists.intro; refine ⟨fun ww hww => ?_, ?_⟩; (focus (unfold calmAt calmUpon; go_simp; first | rfl | exact ⟨rfl, hww⟩)); (simp only [Act.put, List.setIfInBounds_toArray, List.set_cons_succ, List.set_cons_zero]))
    refine calm_nil ?_
    intro ww hww
    go_wp2
    go_ret
    exact ⟨by simp, HB.out.trans (hww.mono HZ)⟩
  · have e0 : decide (0 ≤ x.src) = false := by simpa using h0
    rw [e0, Bool.false_and]
    have HW := Lib.hid hW
    clear RW R1 R bW hbb x0 x1 zW hW ra hva hn hx hs hbv hl hxm S hnh
    go_enter Try.func27, Try.ntmps27
    go_wp2_with fail
    rw [← HW.out]
    refine wp_region_grow (by kernel_rfl) (by kernel_rfl) ?_
    (refine grow_step rfl ?_; apply Exists.intro; refine ⟨fun ww hww => ?_, ?_⟩; (focus (unfold calmAt calmUpon; go_simp; first | rfl | exact ⟨rfl, hww⟩)); (simp only [Act.put, List.setIfInBounds_toArray, List.set_cons_succ, List.set_cons_zero]))
    (refine grow_step rfl ?_; apply Exists.intro; refine ⟨fun ww hww => ?_, ?_⟩; (focus (have cc := HF.out ww hww; unfold calmAt calmUpon; go_simp; first | rfl | exact ⟨rfl, hww⟩)); (simp only [Act.put, List.setIfInBounds_toArray, List.set_cons_succ, List.set_cons_zero]))
    iterate 2 (refine grow_step rfl ?_; apply Exists.intro; refine ⟨fun ww hww => ?_, ?_⟩; (focus (unfold calmAt calmUpon; go_simp; first | rfl | exact ⟨rfl, hww⟩)); (simp only [Act.put, List.setIfInBounds_toArray, List.set_cons_succ, List.set_cons_zero]))
    iterate 9 (refine grow_skip rfl ?_; (simp only [Act.put, List.setIfInBounds_toArray, List.set_cons_succ, List.set_cons_zero]))
    iterate 2 (refine grow_step rfl ?_; apply Exists.intro; refine ⟨fun ww hww => ?_, ?_⟩; (focus (unfold calmAt calmUpon; go_simp; first | rfl | exact ⟨rfl, hww⟩)); (simp only [Act.put, List.setIfInBounds_toArray, List.set_cons_succ, List.set_cons_zero]))
    refine calm_nil ?_
    intro ww hww
    go_wp2
    go_ret
    exact ⟨by simp, HB.out.trans (hww.mono HZ)⟩
end Go.Proofs.Ytiindnmelegkgaa
