/- NetworkNone: what a nil network answers. Condition: none beyond the statement's. -/
import Derived.Test.YtiindnmelegkgaaN1
import Derived.Test.YtiindnmelegkgaaC4
namespace Go.Proofs.Ytiindnmelegkgaa.networkNone
open Go.ChangeShapes Go.WideShapes Go.ChangeAt Go.RowKit
set_option linter.unusedSimpArgs false
set_option linter.unusedVariables false

set_option maxHeartbeats 4000000 in
set_option maxRecDepth 100000 in
theorem walk (w : World) (x : ActA) (hx : ActOk w x) : Calls Try.prog 8 #[x.val] w fun e w' => e = .returned (.bool true) ∧ Below w.heap.size w w' := by
  obtain ⟨ba, bc, hbv⟩ := hx.sl
  obtain ⟨bn, hbn⟩ : ∃ bn, x.p.bs.length = bn := ⟨_, rfl⟩
  rw [hbn] at hbv
  obtain ⟨W1, hW1⟩ : ∃ W1, W1 = (w.alloc (.cells #[.int .i64 x.what, .int .i64 x.id, .int .i64 x.off, .int .u8 x.m, .string x.p.frm, .string x.p.to, .slice ba bn bc] 42)).alloc (.cells #[.int .i64 x.what, .int .i64 x.id, .int .i64 x.off, .int .u8 x.m, .string x.p.frm, .string x.p.to, .slice ba bn bc] 42) := ⟨_, rfl⟩
  have b1 : Below w.heap.size w W1 := by rw [hW1]; exact ((Below.refl _ _).alloc (Nat.le_refl _) _).alloc (by simp) _
  have y0 : W1.heap[w.heap.size]? = some (.cells #[.int .i64 x.what, .int .i64 x.id, .int .i64 x.off, .int .u8 x.m, .string x.p.frm, .string x.p.to, .slice ba bn bc] 42 (0, 0)) := by rw [hW1, old_at (by simp)]; exact new_at rfl
  have y1 : W1.heap[w.heap.size + 1]? = some (.cells #[.int .i64 x.what, .int .i64 x.id, .int .i64 x.off, .int .u8 x.m, .string x.p.frm, .string x.p.to, .slice ba bn bc] 42 (0, 0)) := by rw [hW1]; exact new_at (by simp)
  have AT : ActsAt W1 (.slice (some ⟨w.heap.size + 1, 0, none⟩) 1 1) [x] := by
    refine ⟨fun y hy => ?_, ⟨_, _, rfl⟩, .inr ⟨w.heap.size + 1, 0, 1, rfl, (Array.getElem?_eq_some_iff.1 y1).1, fun i y hi j hj => ?_⟩⟩
    · obtain rfl : y = x := by simpa using hy
      exact hx.below b1
    · match i with
      | 0 =>
        obtain rfl : x = y := by simpa using hi
        rw [cell_of_row _ _ _ _ _ _ y1]
        simp [ActA.cells, hbv]
      | i + 1 => simp at hi
  have HF := Lib.hid (few_any W1 _ [x] AT 1 (by decide))
  have BOXC : Hid (∀ ww, Below W1.heap.size W1 ww → ww.cell? ⟨w.heap.size, 1, none⟩ = some (.int .i64 x.id) ∧ ww.cell? ⟨w.heap.size, 2, none⟩ = some (.int .i64 x.off) ∧ ww.cell? ⟨w.heap.size, 3, none⟩ = some (.int .u8 x.m) ∧ ww.cell? ⟨w.heap.size, 4, none⟩ = some (.string x.p.frm) ∧ ww.cell? ⟨w.heap.size, 5, none⟩ = some (.string x.p.to) ∧ ww.cell? ⟨w.heap.size, 6, none⟩ = some (.slice ba bn bc)) := Lib.hid fun ww hww => by
    have h := (hww.block _ (Array.getElem?_eq_some_iff.1 y0).1).trans y0
    exact ⟨by rw [cell_of_row _ _ _ _ _ _ h]; rfl, by rw [cell_of_row _ _ _ _ _ _ h]; rfl, by rw [cell_of_row _ _ _ _ _ _ h]; rfl, by rw [cell_of_row _ _ _ _ _ _ h]; rfl, by rw [cell_of_row _ _ _ _ _ _ h]; rfl, by rw [cell_of_row _ _ _ _ _ _ h]; rfl⟩
  have HB1 := Lib.hid b1
  have HW1 := Lib.hid hW1
  have HXV : Hid (x.val = .agg #[.int .i64 x.what, .int .i64 x.id, .int .i64 x.off, .int .u8 x.m, .string x.p.frm, .string x.p.to, .slice ba bn bc]) := Lib.hid (by unfold ActA.val; rw [hbv])
  have SND := Lib.hid (send_nil x.p)
  have INJ := Lib.hid (inject_nil x.p)
  unfold Pk.val at SND INJ
  rw [hbv] at SND INJ
  clear hx b1 y0 y1 AT hbv hbn hW1
  rw [HXV.out]
  cases hf : fewA [x] 1
  · rw [hf] at HF
    clear hf
    go_enter Try.func8, Try.ntmps8
    go_wp2_with fail
    rw [← HW1.out]
    refine HF.out.mono ?_
    rintro e w2 ⟨rfl, rfl⟩
    go_wp2_with fail
    refine (known_any _).mono ?_
    rintro e w4 ⟨rfl, hb4⟩
    go_wp2_with fail
    go_ret
    exact ⟨rfl, HB1.out.trans (hb4.mono HB1.out.size)⟩
  · rw [hf] at HF
    clear hf
    go_enter Try.func8, Try.ntmps8
    go_wp2_with fail
    rw [← HW1.out]
    refine HF.out.mono ?_
    rintro e w2 ⟨rfl, rfl⟩
    obtain ⟨c1, c2, c3, c4, c5, c6⟩ := BOXC.out W1 (Below.refl _ _)
    go_wp2_with fail
    refine (SND.out W1).mono ?_
    rintro e X1 ⟨rfl, hb⟩
    have B1 := Lib.hid hb
    clear hb c1 c2 c3 c4 c5 c6
    obtain ⟨c1, c2, c3, c4, c5, c6⟩ := BOXC.out X1 B1.out
    go_wp2_with fail
    refine (INJ.out X1).mono ?_
    rintro e X2 ⟨rfl, hb⟩
    have B2 := Lib.hid (B1.out.trans (hb.mono B1.out.size))
    clear hb c1 c2 c3 c4 c5 c6
    obtain ⟨c1, c2, c3, c4, c5, c6⟩ := BOXC.out X2 B2.out
    go_wp2_with fail
    refine (replay_nil _ X2).mono ?_
    rintro e X3 ⟨rfl, hb⟩
    have B3 := Lib.hid (B2.out.trans (hb.mono B2.out.size))
    clear hb c1 c2 c3 c4 c5 c6
    obtain ⟨c1, c2, c3, c4, c5, c6⟩ := BOXC.out X3 B3.out
    go_wp2_with fail
    refine (dup_nil _ X3).mono ?_
    rintro e X4 ⟨rfl, hb⟩
    have B4 := Lib.hid (B3.out.trans (hb.mono B3.out.size))
    clear hb c1 c2 c3 c4 c5 c6
    obtain ⟨c1, c2, c3, c4, c5, c6⟩ := BOXC.out X4 B4.out
    go_wp2_with fail
    refine (deliver_nil _ X4).mono ?_
    rintro e X5 ⟨rfl, hb⟩
    have B5 := Lib.hid ((B4.out.trans (hb.mono B4.out.size)).alloc (by have := B4.out.size; have := hb.size; omega) (.cells #[.string { data := #[] }, .string { data := #[] }, .slice none 0 0] 35))
    clear hb c1 c2 c3 c4 c5 c6
    obtain ⟨c1, c2, c3, c4, c5, c6⟩ := BOXC.out _ B5.out
    unfold zeroPk
    go_wp2_with fail
    refine (source_nil _ _).mono ?_
    rintro e X6 ⟨rfl, hb⟩
    have B6 := Lib.hid (B5.out.trans (hb.mono B5.out.size))
    clear hb c1 c2 c3 c4 c5 c6
    obtain ⟨c1, c2, c3, c4, c5, c6⟩ := BOXC.out X6 B6.out
    go_wp2_with fail
    refine (genuine_nil _ X6).mono ?_
    rintro e X7 ⟨rfl, hb⟩
    have B7 := Lib.hid (B6.out.trans (hb.mono B6.out.size))
    clear hb c1 c2 c3 c4 c5 c6
    go_wp2_with fail
    obtain ⟨X8, hX8⟩ : ∃ X8, X8 = X7.drew.alloc (.cells #[.int .i64 1, .int .i64 1, .int .i64 1, .int .i64 1, .int .i64 1, .int .i64 1, .int .i64 1, .int .i64 1, .int .i64 1, .int .i64 1, .int .i64 1, .int .i64 1] 30) := ⟨_, rfl⟩
    have F1 : ∀ k ww, k < 1 → wsq [X7.drew, X8] k ww → ww.cell? ⟨w.heap.size, 1, none⟩ = some (.int .i64 x.id) ∧ ww.cell? ⟨w.heap.size, 2, none⟩ = some (.int .i64 x.off) ∧ ww.cell? ⟨w.heap.size, 3, none⟩ = some (.int .u8 x.m) ∧ ww.cell? ⟨w.heap.size, 4, none⟩ = some (.string x.p.frm) ∧ ww.cell? ⟨w.heap.size, 5, none⟩ = some (.string x.p.to) ∧ ww.cell? ⟨w.heap.size, 6, none⟩ = some (.slice ba bn bc) := fun k ww hk hww => by
      rw [wsq_lt1 hk hww]
      exact BOXC.out _ (B7.out.drew)
    have HF1 := Lib.hid F1
    have HX8 := Lib.hid hX8
    clear F1 hX8
    refine wp_region_chain (wsq [X7.drew, X8]) [42] [(9, 1), (13, 1), (15, 1), (17, 1), (21, 1), (24, 1), (29, 1), (32, 1), (37, 1), (40, 1)] (by kernel_rfl) (by kernel_rfl) (by kernel_rfl) (by kernel_rfl) wsq_0 ?_
    iterate 9 (refine chain_pure rfl rfl ?_; apply Exists.intro; refine ⟨fun ww => ?_, ?_⟩; (focus (unfold calmAt calmUpon; go_simp; rfl)); (simp only [Act.put, List.setIfInBounds_toArray, List.set_cons_succ, List.set_cons_zero]))
    (refine chain_load rfl rfl 1 (by simp) ?_; apply Exists.intro; refine ⟨fun k ww hk hww => ?_, ?_⟩; (focus (obtain ⟨m1, m2, m3, m4, m5, m6⟩ := HF1.out k ww hk hww; unfold calmAt calmUpon; go_simp; rfl)); (simp only [Act.put, List.setIfInBounds_toArray, List.set_cons_succ, List.set_cons_zero]))
    (refine chain_any rfl rfl ?_; apply Exists.intro; refine ⟨fun k ww hww => ?_, ?_⟩; (focus (unfold calmAt calmUpon; go_simp; refine (drop_nilq _ ww).mono ?_; rintro e w1 ⟨rfl, rfl⟩; exact ⟨rfl, hww⟩)); (simp only [Act.put, List.setIfInBounds_toArray, List.set_cons_succ, List.set_cons_zero]))
    iterate 2 (refine chain_pure rfl rfl ?_; apply Exists.intro; refine ⟨fun ww => ?_, ?_⟩; (focus (unfold calmAt calmUpon; go_simp; rfl)); (simp only [Act.put, List.setIfInBounds_toArray, List.set_cons_succ, List.set_cons_zero]))
    (refine chain_load rfl rfl 1 (by simp) ?_; apply Exists.intro; refine ⟨fun k ww hk hww => ?_, ?_⟩; (focus (obtain ⟨m1, m2, m3, m4, m5, m6⟩ := HF1.out k ww hk hww; unfold calmAt calmUpon; go_simp; rfl)); (simp only [Act.put, List.setIfInBounds_toArray, List.set_cons_succ, List.set_cons_zero]))
    (refine chain_pure rfl rfl ?_; apply Exists.intro; refine ⟨fun ww => ?_, ?_⟩; (focus (unfold calmAt calmUpon; go_simp; rfl)); (simp only [Act.put, List.setIfInBounds_toArray, List.set_cons_succ, List.set_cons_zero]))
    (refine chain_load rfl rfl 1 (by simp) ?_; apply Exists.intro; refine ⟨fun k ww hk hww => ?_, ?_⟩; (focus (obtain ⟨m1, m2, m3, m4, m5, m6⟩ := HF1.out k ww hk hww; unfold calmAt calmUpon; go_simp; rfl)); (simp only [Act.put, List.setIfInBounds_toArray, List.set_cons_succ, List.set_cons_zero]))
    (refine chain_pure rfl rfl ?_; apply Exists.intro; refine ⟨fun ww => ?_, ?_⟩; (focus (unfold calmAt calmUpon; go_simp; rfl)); (simp only [Act.put, List.setIfInBounds_toArray, List.set_cons_succ, List.set_cons_zero]))
    (refine chain_load rfl rfl 1 (by simp) ?_; apply Exists.intro; refine ⟨fun k ww hk hww => ?_, ?_⟩; (focus (obtain ⟨m1, m2, m3, m4, m5, m6⟩ := HF1.out k ww hk hww; unfold calmAt calmUpon; go_simp; rfl)); (simp only [Act.put, List.setIfInBounds_toArray, List.set_cons_succ, List.set_cons_zero]))
    (refine chain_any rfl rfl ?_; apply Exists.intro; refine ⟨fun k ww hww => ?_, ?_⟩; (focus (unfold calmAt calmUpon; go_simp; refine (alter_nilq _ _ _ ww).mono ?_; rintro e w1 ⟨rfl, rfl⟩; exact ⟨rfl, hww⟩)); (simp only [Act.put, List.setIfInBounds_toArray, List.set_cons_succ, List.set_cons_zero]))
    iterate 2 (refine chain_pure rfl rfl ?_; apply Exists.intro; refine ⟨fun ww => ?_, ?_⟩; (focus (unfold calmAt calmUpon; go_simp; rfl)); (simp only [Act.put, List.setIfInBounds_toArray, List.set_cons_succ, List.set_cons_zero]))
    (refine chain_load rfl rfl 1 (by simp) ?_; apply Exists.intro; refine ⟨fun k ww hk hww => ?_, ?_⟩; (focus (obtain ⟨m1, m2, m3, m4, m5, m6⟩ := HF1.out k ww hk hww; unfold calmAt calmUpon; go_simp; rfl)); (simp only [Act.put, List.setIfInBounds_toArray, List.set_cons_succ, List.set_cons_zero]))
    iterate 2 (refine chain_pure rfl rfl ?_; apply Exists.intro; refine ⟨fun ww => ?_, ?_⟩; (focus (unfold calmAt calmUpon; go_simp; rfl)); (simp only [Act.put, List.setIfInBounds_toArray, List.set_cons_succ, List.set_cons_zero]))
    (refine chain_load rfl rfl 1 (by simp) ?_; apply Exists.intro; refine ⟨fun k ww hk hww => ?_, ?_⟩; (focus (obtain ⟨m1, m2, m3, m4, m5, m6⟩ := HF1.out k ww hk hww; unfold calmAt calmUpon; go_simp; rfl)); (simp only [Act.put, List.setIfInBounds_toArray, List.set_cons_succ, List.set_cons_zero]))
    (refine chain_any rfl rfl ?_; apply Exists.intro; refine ⟨fun k ww hww => ?_, ?_⟩; (focus (unfold calmAt calmUpon; go_simp; refine (redirect_nilq _ _ ww).mono ?_; rintro e w1 ⟨rfl, rfl⟩; exact ⟨rfl, hww⟩)); (simp only [Act.put, List.setIfInBounds_toArray, List.set_cons_succ, List.set_cons_zero]))
    iterate 3 (refine chain_pure rfl rfl ?_; apply Exists.intro; refine ⟨fun ww => ?_, ?_⟩; (focus (unfold calmAt calmUpon; go_simp; rfl)); (simp only [Act.put, List.setIfInBounds_toArray, List.set_cons_succ, List.set_cons_zero]))
    (refine chain_load rfl rfl 1 (by simp) ?_; apply Exists.intro; refine ⟨fun k ww hk hww => ?_, ?_⟩; (focus (obtain ⟨m1, m2, m3, m4, m5, m6⟩ := HF1.out k ww hk hww; unfold calmAt calmUpon; go_simp; rfl)); (simp only [Act.put, List.setIfInBounds_toArray, List.set_cons_succ, List.set_cons_zero]))
    iterate 2 (refine chain_pure rfl rfl ?_; apply Exists.intro; refine ⟨fun ww => ?_, ?_⟩; (focus (unfold calmAt calmUpon; go_simp; rfl)); (simp only [Act.put, List.setIfInBounds_toArray, List.set_cons_succ, List.set_cons_zero]))
    (refine chain_load rfl rfl 1 (by simp) ?_; apply Exists.intro; refine ⟨fun k ww hk hww => ?_, ?_⟩; (focus (obtain ⟨m1, m2, m3, m4, m5, m6⟩ := HF1.out k ww hk hww; unfold calmAt calmUpon; go_simp; rfl)); (simp only [Act.put, List.setIfInBounds_toArray, List.set_cons_succ, List.set_cons_zero]))
    (refine chain_any rfl rfl ?_; apply Exists.intro; refine ⟨fun k ww hww => ?_, ?_⟩; (focus (unfold calmAt calmUpon; go_simp; refine (block_nil _ _ ww).mono ?_; rintro e w1 ⟨rfl, rfl⟩; exact ⟨rfl, hww⟩)); (simp only [Act.put, List.setIfInBounds_toArray, List.set_cons_succ, List.set_cons_zero]))
    iterate 3 (refine chain_pure rfl rfl ?_; apply Exists.intro; refine ⟨fun ww => ?_, ?_⟩; (focus (unfold calmAt calmUpon; go_simp; rfl)); (simp only [Act.put, List.setIfInBounds_toArray, List.set_cons_succ, List.set_cons_zero]))
    (refine chain_load rfl rfl 1 (by simp) ?_; apply Exists.intro; refine ⟨fun k ww hk hww => ?_, ?_⟩; (focus (obtain ⟨m1, m2, m3, m4, m5, m6⟩ := HF1.out k ww hk hww; unfold calmAt calmUpon; go_simp; rfl)); (simp only [Act.put, List.setIfInBounds_toArray, List.set_cons_succ, List.set_cons_zero]))
    iterate 2 (refine chain_pure rfl rfl ?_; apply Exists.intro; refine ⟨fun ww => ?_, ?_⟩; (focus (unfold calmAt calmUpon; go_simp; rfl)); (simp only [Act.put, List.setIfInBounds_toArray, List.set_cons_succ, List.set_cons_zero]))
    (refine chain_load rfl rfl 1 (by simp) ?_; apply Exists.intro; refine ⟨fun k ww hk hww => ?_, ?_⟩; (focus (obtain ⟨m1, m2, m3, m4, m5, m6⟩ := HF1.out k ww hk hww; unfold calmAt calmUpon; go_simp; rfl)); (simp only [Act.put, List.setIfInBounds_toArray, List.set_cons_succ, List.set_cons_zero]))
    (refine chain_any rfl rfl ?_; apply Exists.intro; refine ⟨fun k ww hww => ?_, ?_⟩; (focus (unfold calmAt calmUpon; go_simp; refine (unblock_nil _ _ ww).mono ?_; rintro e w1 ⟨rfl, rfl⟩; exact ⟨rfl, hww⟩)); (simp only [Act.put, List.setIfInBounds_toArray, List.set_cons_succ, List.set_cons_zero]))
    refine chain_write (by kernel_rfl) rfl 0 rfl (by rfl) ?_
    apply Exists.intro
    refine ⟨fun ww hww => ?_, ?_⟩
    focus
      obtain rfl : X7.drew = ww := by simpa [wsq] using hww
      unfold calmAt calmUpon
      go_simp
      refine ⟨rfl, ?_⟩
      rw [HX8.out]
      rfl
    (simp only [Act.put, List.setIfInBounds_toArray, List.set_cons_succ, List.set_cons_zero])
    (refine chain_pure rfl rfl ?_; apply Exists.intro; refine ⟨fun ww => ?_, ?_⟩; (focus (unfold calmAt calmUpon; go_simp; rfl)); (simp only [Act.put, List.setIfInBounds_toArray, List.set_cons_succ, List.set_cons_zero]))
    refine calm_nil ?_
    intro ww hww
    obtain rfl : X8 = ww := by simpa [wsq] using hww
    clear hww
    obtain ⟨D, hD⟩ : ∃ D, X7.heap.size = D := ⟨_, rfl⟩
    have y8 : X8.heap[D]? = some (.cells #[.int .i64 1, .int .i64 1, .int .i64 1, .int .i64 1, .int .i64 1, .int .i64 1, .int .i64 1, .int .i64 1, .int .i64 1, .int .i64 1, .int .i64 1, .int .i64 1] 30 (0, 0)) := by rw [HX8.out]; exact new_at hD.symm
    have B8 : Below w.heap.size w X8 := by
      rw [HX8.out]
      exact (HB1.out.trans (B7.out.mono HB1.out.size)).drew.alloc (by have h1 := HB1.out.size; have h2 := B7.out.size; show w.heap.size ≤ X7.heap.size; omega) _
    have CELL : ∀ k : Nat, k < 12 → X8.cell? ⟨D, k, none⟩ = some (.int .i64 1) := fun k hk => by
      rw [cell_of_row _ _ _ _ _ _ y8]
      match k, hk with
      | 0, _ => rfl
      | 1, _ => rfl
      | 2, _ => rfl
      | 3, _ => rfl
      | 4, _ => rfl
      | 5, _ => rfl
      | 6, _ => rfl
      | 7, _ => rfl
      | 8, _ => rfl
      | 9, _ => rfl
      | 10, _ => rfl
      | 11, _ => rfl
    have HCELL := Lib.hid CELL
    have HB8 := Lib.hid B8
    rw [hD]
    clear y8 B8 CELL
    go_wp2_with fail
    go_loopw [19] (fun i wr => ∃ k : Nat, i = .int .i64 k ∧ k ≤ 12 ∧ wr = X8) (fun i _ => 12 - (intOf i).toNat)
    case atStart => exact ⟨0, rfl, Nat.zero_le _, rfl⟩
    case round =>
      obtain ⟨k, rfl, hk, rfl⟩ := hrel
      by_cases hlt : k < 12
      · have m := HCELL.out k hlt
        go_wp2_with fail
        go_roundw
        case rel => exact ⟨k + 1, by simp, by omega, trivial⟩
        case measure => simp [intOf]; omega
      · obtain rfl : k = 12 := by omega
        have AG := Lib.hid (agrees_ok (seen_nil wr) (RN0_ok wr) RN0_pair (by decide))
        unfold RNet.val RN0 at AG
        dsimp only at AG
        go_wp2_with fail
        refine (copy_nil _).mono ?_
        rintro e w9 ⟨rfl, rfl⟩
        go_wp2_with fail
        refine AG.out.mono ?_
        rintro e w10 ⟨rfl, hb10⟩
        have HB10 := Lib.hid hb10
        clear hb10
        go_wp2_with fail
        refine (known_any _).mono ?_
        rintro e w11 ⟨rfl, hb11⟩
        have HB11 := Lib.hid hb11
        clear hb11
        go_wp2_with fail
        go_ret
        exact ⟨rfl, (HB8.out.trans (HB10.out.mono HB8.out.size)).trans (HB11.out.mono (Nat.le_trans HB8.out.size HB10.out.size))⟩

set_option maxRecDepth 100000 in
theorem lifted (os : Os) (started : os.Started) (H : Type) (enc : TypeId × Value → H) :
    ReturnsInHanded {} Try.checked os 8 .any (Rows.networkNoneSpec.pre6 enc Try.prog Try.f8 Rows.networkNoneRow.domain false) (Rows.networkNoneSpec.post enc Try.prog Try.f8 false true false false) := by
  refine returnsInHanded_of_change (C := Try.checked) own started (by kernel_rfl) Try.func8
    (ChangeSpec.witness6 (enc := enc) (C := Try.checked) false ⟨#[], #[.agg #[.int .i64 0, .int .i64 0, .int .i64 0, .int .u8 0, .string { data := #[] }, .string { data := #[] }, .slice none 0 0]], []⟩ 8 (by kernel_rfl) (by kernel_rfl) (by kernel_rfl) (by kernel_rfl)) ?_
  intro W base args ds gs before hval0 hW hcnd _
  have hval : ∀ (j : Nat) t v, Try.f8.params[j]? = some t → args[j]? = some v → Value.okWide Try.prog W .any base t v := hval0
  have hW' := hW
  obtain ⟨p, q, hA0, hV, rfl, hfz, hnd⟩ := hW
  have hA : DataW.TrodAll enc Try.prog W 0 (fun _ => true) true Try.f8.params.toList args.toList ds p := hA0
  rw [Try.params8] at hA hval
  obtain ⟨v0, vs0, d0, ds0, p0, q0, hargs, rfl, rfl, h0, r0⟩ := trodAll_cons hA
  obtain ⟨rfl, rfl, rfl⟩ := trodAll_nil r0
  obtain rfl : args = #[v0] := by cases args; simp_all
  obtain ⟨cs, rfl, hcs⟩ := okWide_struct Try.underlying42 (hval 0 42 v0 rfl rfl)
  obtain ⟨fuel, hf⟩ := h0
  obtain ⟨x, hxc, hx⟩ := act_open hf
  have hv : Value.agg cs = x.val := by
    have e : cs.toList = x.cells := hxc
    have e2 : cs = x.cells.toArray := by rw [← e]
    rw [e2]
    rfl
  rw [hv]
  refine (walk W x hx).mono fun e W' ⟨he, hb⟩ => ?_
  subst he
  rw [hv] at hW'
  exact ⟨_, rfl, law_post rfl (by kernel_rfl) (by rw [Try.params8]; intro t ht; simp at ht; subst ht; exact ⟨by kernel_rfl, of_decide_eq_true (by kernel_rfl)⟩) rfl rfl rfl hW' hb⟩

set_option maxRecDepth 100000 in
theorem over : Rows.networkNoneRow.holds Try.pinned (OpenSpec.ofChange Rows.networkNoneSpec) :=
  OpenClaim.holds_of_wide 8 Try.f8 rfl rfl rfl rfl rfl rfl rfl ⟨rfl, rfl, rfl, rfl, rfl⟩ rfl rfl rfl rfl rfl (by kernel_rfl) Try.func8 (by kernel_rfl)
    (of_decide_eq_true (by kernel_rfl)) (by unfold Func.isWrapper; first | (rw [if_pos (by decide +kernel)]; kernel_rfl) | (rw [if_neg (by decide +kernel)]; exact ⟨rfl, rfl⟩))
    (fun os started H enc _ => lifted os started H enc)

/-- THE STATEMENT -/
theorem proved : Rows.NetworkNoneSaid :=
  over
#print axioms proved
end Go.Proofs.Ytiindnmelegkgaa.networkNone
