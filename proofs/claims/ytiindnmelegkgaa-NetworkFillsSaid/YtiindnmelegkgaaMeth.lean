/- Source, Replay, Duplicate. -/
import Derived.Test.YtiindnmelegkgaaDeliver
namespace Go.Proofs.Ytiindnmelegkgaa
open Go.RowKit
set_option linter.unusedSimpArgs false
set_option linter.unusedVariables false


theorem source_hit {ρ : Nat → Nat} {w : World} {p : Nat} {N : Net} (R : Rep ρ w p N) (S : Small N) {id : Int} {i : Nat} {x : Fl} (h : Hits N.fl id i x) :
    Calls Try.prog 25 #[.pointer (some ⟨p, 0, none⟩), .int .i64 id] w fun e w' => e = .returned (.tuple #[.int .i64 x.src, .int .i64 0]) ∧ Below w.heap.size w w' := by
  have HC := Lib.hid (index_hit R S h)
  have HR := Lib.hid R
  have HX := Lib.hid h.1
  have hil : i < N.fl.length := (List.getElem?_eq_some_iff.1 h.1).1
  obtain ⟨g, cap, cur, hvf, _⟩ := row_addr R.f (by omega)
  obtain ⟨n, hn⟩ : ∃ n, N.fl.length = n := ⟨_, rfl⟩
  rw [hn] at hvf hil
  clear R S h
  go_enter Try.func25, Try.ntmps25
  go_wp2_with fail
  refine HC.out.mono ?_
  rintro e w1 ⟨rfl, hb⟩
  have R1 := HR.out.below hb
  obtain ⟨c0, c1, c2, c3, c4, fr⟩ := net_cells R1
  rw [hvf] at c0
  have rf1 := R1.f
  rw [hvf, hn] at rf1
  have m4 := fl_at rf1 HX.out hn 4 (by decide)
  simp [Fl.cells] at m4
  clear R1 c1 c2 c3 c4 fr rf1
  go_wp2
  go_ret2
  exact ⟨rfl, hb⟩

theorem hist_at {w : World} {g cap : Nat} {hi : List Pk} {m : Nat} (h : w.ownsRow 0 35 3 (.slice (some ⟨g, 0, none⟩) m cap) m (hi.flatMap Pk.cells)) {k : Nat} {x : Pk} (hk : hi[k]? = some x) (hm : hi.length = m) :
    ∀ i, i < 3 → w.cell? ⟨g, k * 3 + i, none⟩ = x.cells[i]? := by
  intro i hi'
  have hlt : k < hi.length := (List.getElem?_eq_some_iff.1 hk).1
  rw [h.cellAt _ (by omega), flat_get Pk.cells 3 (fun _ => rfl) hi k i hi', hk]
  rfl

/-- A packet has been put in flight. -/
def Launched (ρ : Nat → Nat) (w w' : World) (p : Nat) (N : Net) (q : Pk) (src : Int) (kind frm : Int) : Prop :=
  ∃ bv' vf' ve' ρ', Rep ρ' w' p { N with fl := N.fl ++ [⟨{ q with bv := bv' }, N.next, src⟩], evs := N.evs ++ [⟨kind, N.next, frm⟩], next := N.next + 1, vf := vf', ve := ve' } ∧ Step ρ ρ' w w'

theorem replay_ok {ρ : Nat → Nat} {w : World} {p : Nat} {N : Net} (R : Rep ρ w p N) (S : Small N) (k : Nat) (q : Pk) (hk : N.hist[k]? = some q) (hf : N.fl.length < 64) :
    Calls Try.prog 14 #[.pointer (some ⟨p, 0, none⟩), .int .i64 k] w fun e w' => e = .returned (.tuple #[.int .i64 N.next, .int .i64 0]) ∧ Launched ρ w w' p N q k 7 k := by
  have hqm := List.mem_of_getElem? hk
  have hkl : k < N.hist.length := (List.getElem?_eq_some_iff.1 hk).1
  have hv := R.hok q hqm
  have hbl : q.bs.length ≤ 1099511627776 := by
    simp only [validB, Bool.and_eq_true, decide_eq_true_eq] at hv; omega
  obtain ⟨bv', vf', ve', ρ', w', R', S', call⟩ := launch_any ρ w p N R 7 q k k (ownB_rd (R.hb q hqm) hbl) hv (Nat.le_trans S.next (by decide)) (Nat.le_trans S.evs (by decide)) (by omega) (fun e => by have := R.rhb q hqm p e; rw [R.rp] at this; cases this)
  have END : Hid (Launched ρ w w' p N q k 7 k) := Lib.hid ⟨bv', vf', ve', ρ', R', S'⟩
  have HC := Lib.hid call
  obtain ⟨c0, c1, c2, c3, c4, fr⟩ := net_cells R
  obtain ⟨fa, fc, hvf⟩ := row_slice R.f
  obtain ⟨g, cap, cur, hvh, _⟩ := row_addr R.h (by omega)
  have rh := R.h
  obtain ⟨n, hn⟩ : ∃ n, N.hist.length = n := ⟨_, rfl⟩
  rw [hvf] at c0
  rw [hvh] at c1
  rw [hvh, hn] at rh
  rw [hn] at hkl c1
  have m0 := hist_at rh hk hn 0 (by decide)
  have m1 := hist_at rh hk hn 1 (by decide)
  have m2 := hist_at rh hk hn 2 (by decide)
  simp [Pk.cells] at m0 m1 m2
  generalize N.fl.length = n1 at *
  clear call R' S' R S c2 c3 c4 fr rh hv hbl
  unfold Pk.val at HC
  go_enter Try.func14, Try.ntmps14
  go_wp2_with fail
  refine HC.out.mono ?_
  rintro e w1 ⟨rfl, rfl⟩
  go_wp2
  go_ret2
  exact ⟨rfl, END.out⟩

set_option maxHeartbeats 1000000 in
set_option maxRecDepth 100000 in
theorem dup_ok {ρ : Nat → Nat} {w : World} {p : Nat} {N : Net} (R : Rep ρ w p N) (S : Small N) {id : Int} {i : Nat} {x : Fl} (h : Hits N.fl id i x) (hf : N.fl.length < 64) :
    Calls Try.prog 15 #[.pointer (some ⟨p, 0, none⟩), .int .i64 id] w fun e w' => e = .returned (.tuple #[.int .i64 N.next, .int .i64 0]) ∧ Launched ρ w w' p N x.p x.src 4 id := by
  have HC := Lib.hid (index_hit R S h)
  have HR := Lib.hid R
  have HX := Lib.hid h.1
  have HS := Lib.hid S
  have hil : i < N.fl.length := (List.getElem?_eq_some_iff.1 h.1).1
  obtain ⟨g, cap, cur, hvf, _⟩ := row_addr R.f (by omega)
  obtain ⟨n, hn⟩ : ∃ n, N.fl.length = n := ⟨_, rfl⟩
  rw [hn] at hvf hil hf
  clear R S h
  go_enter Try.func15, Try.ntmps15
  go_wp2_with fail
  refine HC.out.mono ?_
  rintro e w1 ⟨rfl, hb⟩
  have R1 := HR.out.below hb
  obtain ⟨c0, c1, c2, c3, c4, fr⟩ := net_cells R1
  rw [hvf] at c0
  have rf1 := R1.f
  rw [hvf, hn] at rf1
  have m0 := fl_at rf1 HX.out hn 0 (by decide)
  have m1 := fl_at rf1 HX.out hn 1 (by decide)
  have m2 := fl_at rf1 HX.out hn 2 (by decide)
  have m4 := fl_at rf1 HX.out hn 4 (by decide)
  simp [Fl.cells] at m0 m1 m2 m4
  have hxm := List.mem_of_getElem? HX.out
  have hv := R1.fok x hxm
  have hbl : x.p.bs.length ≤ 1099511627776 := by
    simp only [validB, Bool.and_eq_true, decide_eq_true_eq] at hv; omega
  have R2 : Rep ρ w1.drew p N := R1.stays (Nat.le_refl _) fun _ _ => rfl
  obtain ⟨bv', vf', ve', ρ', w', R', S', call⟩ := launch_any ρ w1.drew p N R2 4 x.p x.src id (ownB_rd (R2.fb x hxm) hbl) hv (Nat.le_trans HS.out.next (by decide)) (Nat.le_trans HS.out.evs (by decide)) (by omega) (fun e => by have := R1.rfb x hxm p e; rw [R1.rp] at this; omega)
  have END : Hid (Launched ρ w w' p N x.p x.src 4 id) := Lib.hid ⟨bv', vf', ve', ρ', R', (Below.step hb).trans (((Step.refl ρ w1).drew).trans S')⟩
  have HC4 := Lib.hid call
  clear call R' S' R1 R2 c1 c2 c3 c4 fr rf1 hv hbl hb hxm
  unfold Pk.val at HC4
  go_wp2_with fail
  refine wp_region_chain (wsq [w1.drew, w']) [18] [(4, 1), (8, 1), (12, 1), (16, 1)] (by kernel_rfl) (by kernel_rfl) (by kernel_rfl) (by kernel_rfl) wsq_0 ?_
  iterate 4 (refine chain_pure rfl rfl ?_; apply Exists.intro; refine ⟨fun ww => ?_, ?_⟩; (focus (unfold calmAt calmUpon; go_simp; rfl)); (simp only [Act.put, List.setIfInBounds_toArray, List.set_cons_succ, List.set_cons_zero]))
  (refine chain_load rfl rfl 1 (by simp) ?_; apply Exists.intro; refine ⟨fun k ww hk hww => ?_, ?_⟩; (focus (have e := wsq_lt1 hk hww; subst e; unfold calmAt calmUpon; go_simp; rfl)); (simp only [Act.put, List.setIfInBounds_toArray, List.set_cons_succ, List.set_cons_zero]))
  iterate 3 (refine chain_pure rfl rfl ?_; apply Exists.intro; refine ⟨fun ww => ?_, ?_⟩; (focus (unfold calmAt calmUpon; go_simp; rfl)); (simp only [Act.put, List.setIfInBounds_toArray, List.set_cons_succ, List.set_cons_zero]))
  (refine chain_load rfl rfl 1 (by simp) ?_; apply Exists.intro; refine ⟨fun k ww hk hww => ?_, ?_⟩; (focus (have e := wsq_lt1 hk hww; subst e; unfold calmAt calmUpon; go_simp; rfl)); (simp only [Act.put, List.setIfInBounds_toArray, List.set_cons_succ, List.set_cons_zero]))
  iterate 3 (refine chain_pure rfl rfl ?_; apply Exists.intro; refine ⟨fun ww => ?_, ?_⟩; (focus (unfold calmAt calmUpon; go_simp; rfl)); (simp only [Act.put, List.setIfInBounds_toArray, List.set_cons_succ, List.set_cons_zero]))
  (refine chain_load rfl rfl 1 (by simp) ?_; apply Exists.intro; refine ⟨fun k ww hk hww => ?_, ?_⟩; (focus (have e := wsq_lt1 hk hww; subst e; unfold calmAt calmUpon; go_simp; rfl)); (simp only [Act.put, List.setIfInBounds_toArray, List.set_cons_succ, List.set_cons_zero]))
  iterate 3 (refine chain_pure rfl rfl ?_; apply Exists.intro; refine ⟨fun ww => ?_, ?_⟩; (focus (unfold calmAt calmUpon; go_simp; rfl)); (simp only [Act.put, List.setIfInBounds_toArray, List.set_cons_succ, List.set_cons_zero]))
  (refine chain_load rfl rfl 1 (by simp) ?_; apply Exists.intro; refine ⟨fun k ww hk hww => ?_, ?_⟩; (focus (have e := wsq_lt1 hk hww; subst e; unfold calmAt calmUpon; go_simp; rfl)); (simp only [Act.put, List.setIfInBounds_toArray, List.set_cons_succ, List.set_cons_zero]))
  iterate 1 (refine chain_pure rfl rfl ?_; apply Exists.intro; refine ⟨fun ww => ?_, ?_⟩; (focus (unfold calmAt calmUpon; go_simp; rfl)); (simp only [Act.put, List.setIfInBounds_toArray, List.set_cons_succ, List.set_cons_zero]))
  refine chain_write (by kernel_rfl) rfl 0 rfl (by rfl) ?_
  apply Exists.intro
  refine ⟨fun ww hww => ?_, ?_⟩
  focus
    have e := wsq_lt1 (Nat.zero_lt_one) hww
    subst e
    unfold calmAt calmUpon
    go_simp
    refine HC4.out.mono ?_
    rintro e w1 ⟨rfl, rfl⟩
    exact ⟨rfl, rfl⟩
  (simp only [Act.put, List.setIfInBounds_toArray, List.set_cons_succ, List.set_cons_zero])
  iterate 2 (refine chain_pure rfl rfl ?_; apply Exists.intro; refine ⟨fun ww => ?_, ?_⟩; (focus (unfold calmAt calmUpon; go_simp; rfl)); (simp only [Act.put, List.setIfInBounds_toArray, List.set_cons_succ, List.set_cons_zero]))
  refine calm_nil ?_
  intro ww hww
  have e : w' = ww := by simpa [wsq] using hww
  subst e
  clear hww
  go_wp2
  go_ret2
  exact ⟨rfl, END.out⟩
end Go.Proofs.Ytiindnmelegkgaa
