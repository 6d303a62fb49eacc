/- NetworkConserves: the rounds. -/
import Derived.Test.YtiindnmelegkgaaC3
import Derived.Test.YtiindnmelegkgaaC4
import Derived.Test.YtiindnmelegkgaaC5
import Derived.Test.YtiindnmelegkgaaC7
import Derived.Test.YtiindnmelegkgaaBar
import Derived.Test.YtiindnmelegkgaaE1
import Derived.Deep.CutBlock
import Derived.Deep.DeepCutAuto
import Derived.WalkKit
namespace Go.Proofs.Ytiindnmelegkgaa
open Go.RowKit Go.Shelf
set_option linter.unusedSimpArgs false
set_option linter.unusedVariables false
attribute [local go_sem] Oper.semAt_some

/-- The boxes of the law: the network's pointer, whether all was honest, the result. -/
def CBox (s : Nat) (h : Bool) : List (Nat × Obj) := [(s + 3, .cells #[.bool h] 4), (s + 2, .cells #[.pointer (some ⟨s + 1, 0, none⟩)] 23), (s, .cells #[.bool false] 4)]
/-- The state of the rounds. -/
def CSt (w : World) (h : Bool) (A : Abs) (k : Nat) (wr : World) : Prop := KS w (w.heap.size + 1) A (CBox w.heap.size h) wr ∧ Cons h A (2 * k)
theorem CSt.start (w : World) : CSt w true A0 0 ((((w.alloc (.cells #[.bool false] 4)).alloc (.cells zeroNet 29)).alloc (.cells #[.pointer (some ⟨w.heap.size + 1, 0, none⟩)] 23)).alloc (.cells #[.bool true] 4)) := by
  refine ⟨?_, Cons.zero⟩
  have h1 := ((KS.new (w.alloc (.cells #[.bool false] 4))).box (.cells #[.pointer (some ⟨w.heap.size + 1, 0, none⟩)] 23)).box (.cells #[.bool true] 4)
  obtain ⟨ρ, N, R, hA, hk, h0, hb⟩ := h1
  simp only [World.size_alloc] at R hk h0 hb
  have hb0 : Below w.heap.size w (w.alloc (.cells #[.bool false] 4)) := (Below.refl _ _).alloc (Nat.le_refl _) _
  refine ⟨ρ, N, R, hA, fun x hx => ?_, fun b hb => h0 b (by omega), hb0.trans (hb.mono (by omega))⟩
  unfold CBox at hx
  rcases List.mem_cons.1 hx with rfl | hx
  · exact hk _ (by simp)
  · rcases List.mem_cons.1 hx with rfl | hx
    · exact hk _ (by simp)
    · obtain rfl : x = _ := List.mem_singleton.1 hx
      exact ⟨(hb.block _ (by omega)).trans (new_at rfl), h0 _ (by omega)⟩

theorem KS.sub {w0 w : World} {p : Nat} {A : Abs} {kept kept' : List (Nat × Obj)} (h : KS w0 p A kept w) (hs : ∀ x ∈ kept', x ∈ kept) : KS w0 p A kept' w := by
  obtain ⟨ρ, N, R, hA, hk, h0, hb⟩ := h
  exact ⟨ρ, N, R, hA, fun y hy => hk y (hs y hy), h0, hb⟩
/-- The boxes with the act beside them. -/
def CBox6 (s D : Nat) (h : Bool) (x : ActA) : List (Nat × Obj) := (s + 3, .cells #[.bool h] 4) :: (D, .cells x.cells.toArray 42) :: [(s + 2, .cells #[.pointer (some ⟨s + 1, 0, none⟩)] 23), (s, .cells #[.bool false] 4)]
theorem CBox6.drop {w0 w : World} {p s D : Nat} {A : Abs} {h : Bool} {x : ActA} (k : KS w0 p A (CBox6 s D h x) w) : KS w0 p A (CBox s h) w := k.sub fun y hy => by
  unfold CBox at hy
  unfold CBox6
  simp only [List.mem_cons, List.not_mem_nil, or_false] at hy ⊢
  rcases hy with h | h | h
  · exact .inl h
  · exact .inr (.inr (.inl h))
  · exact .inr (.inr (.inr h))
theorem CBox6.take {w0 w : World} {p s D : Nat} {A : Abs} {h : Bool} {x : ActA} (k : KS w0 p A ((D, .cells x.cells.toArray 42) :: CBox s h) w) : KS w0 p A (CBox6 s D h x) w := k.sub fun y hy => by
  unfold CBox
  unfold CBox6 at hy
  simp only [List.mem_cons, List.not_mem_nil, or_false] at hy ⊢
  rcases hy with h | h | h | h
  · exact .inr (.inl h)
  · exact .inl h
  · exact .inr (.inr (.inl h))
  · exact .inr (.inr (.inr h))
theorem wpAny_pick {P : Program} {ops : Array Oper} {md : Region.Mode} {Q : Exit → Go.Act → World → Prop} {f : Nat} {done : Array Bool} {a : Go.Act} {w : World} (is : List Nat) (hr : Region.ready md ops done = is) (hne : is ≠ [])
    (h : ∀ i ∈ is, wpOp P ops Q i (wpAny P md ops Q f (done.setIfInBounds i true)) a w) : wpAny P md ops Q (f + 1) done a w :=
  ⟨fun h0 => absurd (hr.symm.trans h0) hne, fun i hi => h i (by rw [← hr]; exact hi)⟩
theorem FlSeq.below {w w' : World} {base : Nat} {fl : List AFl} {B : Nat} {v : Value} {L : List Fl} (h : FlSeq w base fl B v L) (hb : Below w.heap.size w w') : FlSeq w' base fl B v L :=
  ⟨(hb.block _ (Array.getElem?_eq_some_iff.1 h.box).1).trans h.box, h.hB, row_stays h.row fun b h' => hb.block b (h.row.lt b h').2, h.far, h.abs, fun x hx => row_stays (h.own x hx) fun b h' => hb.block b ((h.own x hx).lt b h').2, h.ofar⟩
theorem FlSeq.base {w : World} {base base' : Nat} {fl : List AFl} {B : Nat} {v : Value} {L : List Fl} (h : FlSeq w base fl B v L) (hb : base' ≤ base) : FlSeq w base' fl B v L :=
  ⟨h.box, Nat.le_trans hb h.hB, h.row, fun b h' => Nat.le_trans hb (h.far b h'), h.abs, h.own, fun x hx b h' => Nat.le_trans hb (h.ofar x hx b h')⟩
theorem KSn.below {w0 w w' : World} {p n : Nat} {A : Abs} {kept : List (Nat × Obj)} (h : KSn w0 p A kept n w) (hb : Below w.heap.size w w') : KSn w0 p A kept n w' := by
  obtain ⟨ρ, N, R, hA, hk, h0, hb0, hf, hn, hw0⟩ := h
  have old : ∀ b, b < n → w'.heap[b]? = w.heap[b]? := fun b h => hb.block b (by omega)
  refine ⟨ρ, N, R.stays hb.size fun b hb => old b ?_, hA, fun x hx => ⟨(old _ (hk x hx).2.2).trans (hk x hx).1, (hk x hx).2⟩, h0, hb0.trans (hb.mono hb0.size), hf, Nat.le_trans hn hb.size, hw0⟩
  rcases Nat.lt_or_ge b n with h | h
  · exact h
  · exact absurd (hf b h) hb
theorem bal_bd : ∀ l : List Ev, -(l.length : Int) ≤ bal l ∧ bal l ≤ l.length
  | [] => by simp [bal]
  | e :: l => by
    have ih := bal_bd l
    have : -1 ≤ wt e.kind ∧ wt e.kind ≤ 1 := by unfold wt; split; · omega
                                                split <;> omega
    simp only [bal, List.length_cons]
    omega
theorem KS.idn {w0 w : World} {p : Nat} {A : Abs} {kept : List (Nat × Obj)} (h : KS w0 p A kept w) : ∀ x ∈ A.fl, x.id < A.next := by
  obtain ⟨ρ, N, R, rfl, _⟩ := h
  intro x hx
  obtain ⟨y, hy, rfl⟩ := List.mem_map.1 hx
  exact R.idn y hy
theorem upE_snd (evs : List Ev) : (upE evs evs.length).map Prod.snd = evs := by
  apply List.ext_getElem?
  intro i
  unfold upE evAt
  rcases Nat.lt_or_ge i evs.length with h | h
  · simp [h]
  · simp [h]
def honN (h : Bool) (x : ActA) : Bool := h && ((x.what != 2 && x.what != 8) && x.what != 9)
theorem honN_of {h : Bool} {x : ActA} (e : honN h x = true) : h = true := by cases h <;> simp_all [honN]

set_option maxHeartbeats 4000000 in
set_option maxRecDepth 100000 in
theorem cons_walk (w : World) (v : Value) (l : List ActA) (h : ActsAt w v l) (hf : fewA l 40 = true) : Calls Try.prog 4 #[v] w fun e w' => e = .returned (.bool true) ∧ Below w.heap.size w w' := by
  obtain ⟨sa, sc, hv⟩ := h.at_.1
  obtain ⟨n, hn⟩ : ∃ n, l.length = n := ⟨_, rfl⟩
  rw [hn] at hv
  have hn40 : n ≤ 40 := by simp only [fewA, Bool.and_eq_true, decide_eq_true_eq] at hf; omega
  have hfw : ∀ x ∈ l, x.few = true := by simp only [fewA, Bool.and_eq_true, List.all_eq_true] at hf; exact hf.2
  have HF := Lib.hid (few_any (w.alloc (.cells #[.bool false] 4)) v l (h.below ((Below.refl _ _).alloc (Nat.le_refl _) _)) 40 (by decide))
  rw [hf] at HF
  have HFW := Lib.hid hfw
  have HA := Lib.hid h
  have HN := Lib.hid hn
  have ST := Lib.hid (CSt.start w)
  subst hv
  clear hf hfw h hn
  refine (callsIn_wide (n := 3)).1 ?_
  refine callsIn_of_wp_marks Try.func4 rfl trivial ?_ rfl
  simp only [Try.ntmps4, List.size_toArray, List.length_cons, List.length_nil, Nat.reduceAdd, Nat.reduceSub, Array.replicate_succ, Array.replicate_zero, List.push_toArray, List.append_toArray, List.nil_append, List.cons_append]
  refine wpIn_wide.2 ?_
  go_wp2_with fail
  refine HF.out.mono ?_
  rintro e w1 ⟨rfl, rfl⟩
  go_upto_block 0 with fail
  obtain ⟨W0, hW0⟩ : ∃ W0, W0 = ((((w.alloc (.cells #[.bool false] 4)).alloc (.cells zeroNet 29)).alloc (.cells #[.pointer (some ⟨w.heap.size + 1, 0, none⟩)] 23)).alloc (.cells #[.bool true] 4)) := ⟨_, rfl⟩
  rw [← hW0] at ST
  unfold zeroNet at hW0
  rw [← hW0]
  clear hW0
  go_cut [] from 5 to 154 (fun wx => ∃ hon A, CSt w hon A n wx)
  case first =>
    go_wp2_with fail
    go_loopw [5] (fun i wr => ∃ (k : Nat) (hon : Bool) (A : Abs), i = .int .i64 k ∧ k ≤ n ∧ CSt w hon A k wr) (fun i _ => n - (intOf i).toNat)
    case atStart => exact ⟨0, true, A0, rfl, Nat.zero_le _, ST.out⟩
    case round =>
      obtain ⟨k, hon, A, rfl, hk, hS⟩ := hrel
      by_cases hlt : k < n
      · obtain ⟨b, off, c, hv'⟩ := HA.out.form (by rw [HN.out]; omega)
        rw [HN.out] at hv'
        simp only [Value.slice.injEq, true_and] at hv'
        obtain ⟨rfl, rfl⟩ := hv'
        obtain ⟨x, hx⟩ : ∃ x, l[k]? = some x := ⟨l[k]'(by rw [HN.out]; exact hlt), List.getElem?_eq_getElem _⟩
        have hxm := List.mem_of_getElem? hx
        have cc := (HA.out.below hS.1.below).cell hx
        have e0 := cc 0 (by decide)
        have e1 := cc 1 (by decide)
        have e2 := cc 2 (by decide)
        have e3 := cc 3 (by decide)
        have e4 := cc 4 (by decide)
        have e5 := cc 5 (by decide)
        have e6 := cc 6 (by decide)
        have HOK := Lib.hid ((HA.out.ok x hxm))
        obtain ⟨ba, bc, hbv⟩ := HOK.out.sl
        obtain ⟨bn, hbn⟩ : ∃ bn, x.p.bs.length = bn := ⟨_, rfl⟩
        rw [hbn] at hbv
        simp [ActA.cells, hbv] at e0 e1 e2 e3 e4 e5 e6
        have HBV := Lib.hid hbv
        have HFX := Lib.hid (HFW.out x hxm)
        have HC := Lib.hid hS.2
        obtain ⟨W1, hW1⟩ : ∃ W1, W1 = wr.alloc (.cells #[.int .i64 x.what, .int .i64 x.id, .int .i64 x.off, .int .u8 x.m, .string x.p.frm, .string x.p.to, .slice ba bn bc] 42) := ⟨_, rfl⟩
        have k1 : KS w (w.heap.size + 1) A (CBox6 w.heap.size wr.heap.size hon x) W1 := by
          have := hS.1.box (.cells x.cells.toArray 42)
          rw [show W1 = wr.alloc (.cells x.cells.toArray 42) by rw [hW1]; simp [ActA.cells, hbv]]
          exact CBox6.take this
        have HK1 := Lib.hid k1
        have HW1 := Lib.hid hW1
        have z1 : wr.heap.size < W1.heap.size := by rw [hW1]; simp
        have hws : w.heap.size + 4 ≤ wr.heap.size := by
          have := (Array.getElem?_eq_some_iff.1 (hS.1.kept (x := (w.heap.size + 3, .cells #[.bool hon] 4)) (by simp [CBox]))).1
          omega
        clear cc hx hxm hbv hbn hS k1 hW1
        go_upto_region 9 with fail
        rw [← HW1.out]
        go_cut [] from 35 to 50 (fun wx => KS w (w.heap.size + 1) A (CBox6 w.heap.size wr.heap.size (honN hon x) x) wx)
        case first =>
          as_aux_lemma =>
            have y1 := HK1.out.kept (x := (w.heap.size + 3, .cells #[.bool hon] 4)) (by simp [CBox6])
            have y2 := HK1.out.kept (x := (wr.heap.size, .cells x.cells.toArray 42)) (by simp [CBox6])
            dsimp only at y1 y2
            have d0 : W1.cell? ⟨w.heap.size + 1 + 1 + 1, 0, none⟩ = some (.bool hon) := by rw [cell_of_row _ _ _ _ _ _ y1]; rfl
            have d1 : W1.cell? ⟨wr.heap.size, 0, none⟩ = some (.int .i64 x.what) := by rw [cell_of_row _ _ _ _ _ _ y2]; rfl
            have f0 := frozen_blk (show W1.heap[w.heap.size + 1 + 1 + 1]? = some (.cells #[.bool hon] 4 (0, 0)) from y1) 0
            have END : Hid (∀ wx v, v = honN hon x → wx = W1.setCell ⟨w.heap.size + 1 + 1 + 1, 0, none⟩ (.bool v) → KS w (w.heap.size + 1) A (CBox6 w.heap.size wr.heap.size (honN hon x) x) wx) := Lib.hid fun wx v hv hwx => by
              rw [hwx, hv]
              exact HK1.out.put (B := w.heap.size + 3) (by omega) (fun y hy => by
                simp only [List.mem_cons, List.not_mem_nil, or_false] at hy
                rcases hy with rfl | rfl | rfl <;> simp <;> omega) 0 (.bool (honN hon x))
            clear y1 y2 e0 e1 e2 e3 e4 e5 e6
            cases hon
            · go_wp2_with fail
              go_meet
              exact END.out _ _ (by simp [honN]) rfl
            · by_cases h2 : x.what = 2
              · go_wp2_with fail
                go_meet
                exact END.out _ _ (by simp [honN, h2]) rfl
              · by_cases h8 : x.what = 8
                · go_wp2_with fail
                  go_meet
                  exact END.out _ _ (by simp [honN, h2, h8]) rfl
                · go_wp2_with fail
                  go_meet
                  exact END.out _ (x.what != 2 && x.what != 8 && x.what != 9) (by simp [honN]) rfl
        case rest =>
          have HT : Hid (Tiny A) := Lib.hid (HC.out.tiny (by omega))
          have hl100 : x.p.bs.length ≤ 100 := by have := HFX.out; simp only [ActA.few, Bool.and_eq_true, decide_eq_true_eq] at this; exact this.2
          have HRD : Hid (rdB wc x.p.bv x.p.bs) := Lib.hid ((HOK.out.rd hl100).below hcut.below)
          have HOLD : Hid (x.p.bs ≠ [] → ∀ b, x.p.bv.ownBlock = some b → b < w.heap.size) := Lib.hid fun hne => HOK.out.old (List.length_pos_iff.2 hne)
          have y2 := hcut.kept (x := (wr.heap.size, .cells x.cells.toArray 42)) (by simp [CBox6])
          have y3 := hcut.kept (x := (w.heap.size + 2, .cells #[.pointer (some ⟨w.heap.size + 1, 0, none⟩)] 23)) (by simp [CBox6])
          dsimp only at y2 y3
          have d0 : wc.cell? ⟨wr.heap.size, 0, none⟩ = some (.int .i64 x.what) := by rw [cell_of_row _ _ _ _ _ _ y2]; rfl
          have d1 : wc.cell? ⟨wr.heap.size, 1, none⟩ = some (.int .i64 x.id) := by rw [cell_of_row _ _ _ _ _ _ y2]; rfl
          have d2 : wc.cell? ⟨wr.heap.size, 2, none⟩ = some (.int .i64 x.off) := by rw [cell_of_row _ _ _ _ _ _ y2]; rfl
          have d3 : wc.cell? ⟨wr.heap.size, 3, none⟩ = some (.int .u8 x.m) := by rw [cell_of_row _ _ _ _ _ _ y2]; rfl
          have d4 : wc.cell? ⟨wr.heap.size, 4, none⟩ = some (.string x.p.frm) := by rw [cell_of_row _ _ _ _ _ _ y2]; rfl
          have d5 : wc.cell? ⟨wr.heap.size, 5, none⟩ = some (.string x.p.to) := by rw [cell_of_row _ _ _ _ _ _ y2]; rfl
          have d6 : wc.cell? ⟨wr.heap.size, 6, none⟩ = some (.slice ba bn bc) := by rw [cell_of_row _ _ _ _ _ _ y2, ← HBV.out]; rfl
          have dp : wc.cell? ⟨w.heap.size + 1 + 1, 0, none⟩ = some (.pointer (some ⟨w.heap.size + 1, 0, none⟩)) := by rw [cell_of_row _ _ _ _ _ _ y3]; rfl
          have HCUT := Lib.hid hcut
          clear y2 y3 e0 e1 e2 e3 e4 e5 e6 hl100
          by_cases hw : x.what = 0
          · as_aux_lemma =>
              rw [hw] at d0
              have CL := Lib.hid (hcut.sendA HT.out x.p HRD.out HOLD.out)
              unfold Pk.val at CL
              rw [HBV.out] at CL
              clear hcut
              go_wp2_with fail
              refine CL.out.mono ?_
              rintro e W3 ⟨rfl, hK3⟩
              go_wp2_with fail
              go_roundw
              case rel => exact ⟨k + 1, honN hon x, _, by simp, by omega, CBox6.drop hK3, (HC.out.send x.p.abs).mono honN_of (by omega)⟩
              case measure => simp [intOf]; omega
          have h0 := hw
          clear hw
          by_cases hw : x.what = 1
          · as_aux_lemma =>
              rw [hw] at d0
              have CL := Lib.hid (hcut.sendA HT.out x.p HRD.out HOLD.out)
              unfold Pk.val at CL
              rw [HBV.out] at CL
              clear hcut
              go_wp2_with fail
              refine CL.out.mono ?_
              rintro e W3 ⟨rfl, hK3⟩
              go_wp2_with fail
              go_roundw
              case rel => exact ⟨k + 1, honN hon x, _, by simp, by omega, CBox6.drop hK3, (HC.out.send x.p.abs).mono honN_of (by omega)⟩
              case measure => simp [intOf]; omega
          have h1 := hw
          clear hw
          by_cases hw : x.what = 2
          · as_aux_lemma =>
              rw [hw] at d0
              have CL := Lib.hid (hcut.injectA HT.out x.p HRD.out HOLD.out)
              unfold Pk.val at CL
              rw [HBV.out] at CL
              clear hcut
              go_wp2_with fail
              refine CL.out.mono ?_
              rintro e W3 ⟨rfl, hK3⟩
              go_wp2_with fail
              go_roundw
              case rel => exact ⟨k + 1, honN hon x, _, by simp, by omega, CBox6.drop hK3, (HC.out.inject x.p.abs).mono (fun e => by simp [honN, hw] at e) (by omega)⟩
              case measure => simp [intOf]; omega
          have h2 := hw
          clear hw
          by_cases hw : x.what = 3
          · as_aux_lemma =>
              rw [hw] at d0
              have CL := Lib.hid (hcut.replayA HT.out x.id)
              clear hcut
              go_wp2_with fail
              refine CL.out.mono ?_
              rintro e W3 ⟨rfl, hK3⟩
              go_wp2_with fail
              go_roundw
              case rel => exact ⟨k + 1, honN hon x, _, by simp, by omega, CBox6.drop hK3, (HC.out.replay x.id).mono honN_of (by omega)⟩
              case measure => simp [intOf]; omega
          have h3 := hw
          clear hw
          by_cases hw : x.what = 4
          · as_aux_lemma =>
              rw [hw] at d0
              have CL := Lib.hid (hcut.dupA HT.out x.id HOK.out.id)
              clear hcut
              go_wp2_with fail
              refine CL.out.mono ?_
              rintro e W3 ⟨rfl, hK3⟩
              go_wp2_with fail
              go_roundw
              case rel => exact ⟨k + 1, honN hon x, _, by simp, by omega, CBox6.drop hK3, (HC.out.dup x.id).mono honN_of (by omega)⟩
              case measure => simp [intOf]; omega
          have h4 := hw
          clear hw
          by_cases hw : x.what = 7
          · as_aux_lemma =>
              rw [hw] at d0
              have CL := Lib.hid (hcut.dropA HT.out x.id HOK.out.id)
              clear hcut
              go_wp2_with fail
              refine CL.out.mono ?_
              rintro e W3 ⟨rfl, hK3⟩
              go_wp2_with fail
              go_roundw
              case rel => exact ⟨k + 1, honN hon x, _, by simp, by omega, CBox6.drop hK3, (HC.out.drop x.id).mono honN_of (by omega)⟩
              case measure => simp [intOf]; omega
          have h7 := hw
          clear hw
          by_cases hw : x.what = 8
          · as_aux_lemma =>
              rw [hw] at d0
              have CL := Lib.hid (hcut.alterA HT.out x.id x.off x.m HOK.out.id)
              clear hcut
              go_wp2_with fail
              refine CL.out.mono ?_
              rintro e W3 ⟨rfl, hK3⟩
              go_wp2_with fail
              go_roundw
              case rel => exact ⟨k + 1, honN hon x, _, by simp, by omega, CBox6.drop hK3, (HC.out.alter x.id x.off x.m).mono (fun e => by simp [honN, hw] at e) (by omega)⟩
              case measure => simp [intOf]; omega
          have h8 := hw
          clear hw
          by_cases hw : x.what = 9
          · as_aux_lemma =>
              rw [hw] at d0
              have CL := Lib.hid (hcut.redirectA HT.out x.id x.p.to HOK.out.id)
              clear hcut
              go_wp2_with fail
              refine CL.out.mono ?_
              rintro e W3 ⟨rfl, hK3⟩
              go_wp2_with fail
              go_roundw
              case rel => exact ⟨k + 1, honN hon x, _, by simp, by omega, CBox6.drop hK3, (HC.out.redirect x.id x.p.to).mono (fun e => by simp [honN, hw] at e) (by omega)⟩
              case measure => simp [intOf]; omega
          have h9 := hw
          clear hw
          by_cases hw : x.what = 10
          · as_aux_lemma =>
              rw [hw] at d0
              have CL := Lib.hid (hcut.blockA HT.out x.p.frm x.p.to)
              clear hcut
              go_wp2_with fail
              refine CL.out.mono ?_
              rintro e W3 ⟨rfl, hK3⟩
              go_wp2_with fail
              go_roundw
              case rel => exact ⟨k + 1, honN hon x, _, by simp, by omega, CBox6.drop hK3, (HC.out.block x.p.frm x.p.to).mono honN_of (by omega)⟩
              case measure => simp [intOf]; omega
          have h10 := hw
          clear hw
          by_cases hw : x.what = 5 ∨ x.what = 6
          · have GC := hcut.genuineA HT.out HC.out.src x.id HOK.out.id
            have DL : ∀ ww, KS w (w.heap.size + 1) A (CBox6 w.heap.size wr.heap.size (honN hon x) x) ww → Calls Try.prog 11 #[.pointer (some ⟨w.heap.size + 1, 0, none⟩), .int .i64 x.id] ww (KOutP w (w.heap.size + 1) (CBox6 w.heap.size wr.heap.size (honN hon x) x) (A.deliver x.id)) := fun ww hk => hk.deliverA HT.out x.id HOK.out.id
            have HCD := Lib.hid ((HC.out.deliver x.id).mono (h' := honN hon x) (j := 2 * (k + 1)) honN_of (by omega))
            have CELLS : Hid (∀ A' ww, KS w (w.heap.size + 1) A' (CBox6 w.heap.size wr.heap.size (honN hon x) x) ww → ww.cell? ⟨wr.heap.size, 1, none⟩ = some (.int .i64 x.id) ∧ ww.cell? ⟨w.heap.size + 1 + 1, 0, none⟩ = some (.pointer (some ⟨w.heap.size + 1, 0, none⟩))) := Lib.hid fun A' ww hk => by
              have y2 := hk.kept (x := (wr.heap.size, .cells x.cells.toArray 42)) (by simp [CBox6])
              have y3 := hk.kept (x := (w.heap.size + 2, .cells #[.pointer (some ⟨w.heap.size + 1, 0, none⟩)] 23)) (by simp [CBox6])
              dsimp only at y2 y3
              exact ⟨by rw [cell_of_row _ _ _ _ _ _ y2]; rfl, by rw [cell_of_row _ _ _ _ _ _ y3]; rfl⟩
            have NOSENT : ∀ er : Int, (∀ b, A.genuine x.id = (b, if er = 9 then 9 else 0) → True) → True := fun _ _ => trivial
            have HGN := Lib.hid GC
            have HDL := Lib.hid DL
            clear GC DL hcut NOSENT
            rcases hfd : A.find x.id with _ | ⟨ix, y⟩
            · as_aux_lemma =>
                have hg : A.genuine x.id = (false, 9) := by unfold Abs.genuine; rw [hfd]
                have hd : A.deliver x.id = (A, zeroA, 9) := by unfold Abs.deliver; rw [hfd]
                rw [hg] at HGN
                rw [hd] at HDL HCD
                clear hfd hg hd
                have fin : ∀ _ : Unit, True := fun _ => trivial
                rcases hw with hw | hw
                all_goals
                  rw [hw] at d0
                  go_wp2_with fail
                  refine HGN.out.mono ?_
                  rintro e W3 ⟨rfl, hK3, hb3⟩
                  obtain ⟨i1, i2⟩ := CELLS.out _ _ hK3
                  go_wp2_with fail
                  refine (HDL.out _ hK3).mono ?_
                  rintro e W4 ⟨q, rfl, hqa, hql, hq⟩
                  obtain ⟨qa, qc, hqv⟩ : ∃ a c, q.bv = .slice a q.bs.length c := by
                    obtain ⟨_, _, _, _, _, _, _, ho, _⟩ := hq
                    exact ownB_slice ho
                  have hK4 := hq.ks
                  generalize q.bs.length = qn at hqv hql
                  unfold Pk.val
                  rw [hqv]
                  dsimp only at hK4 ⊢
                  clear hq
                  go_wp2_with fail
                  go_roundw
                  case rel => exact ⟨k + 1, honN hon x, _, by simp, by omega, CBox6.drop (hK4.box _).drop_box, HCD.out⟩
                  case measure => simp [intOf]; omega
            · as_aux_lemma =>
                have hg : A.genuine x.id = (A.genu y, 0) := by unfold Abs.genuine; rw [hfd]
                rw [hg] at HGN
                have hys := HC.out.src y (List.mem_of_getElem? (find_some hfd).1)
                by_cases hbl : A.bl y.frm y.to = true
                · have hd : A.deliver x.id = (A, zeroA, 8) := by unfold Abs.deliver; rw [hfd]; exact if_pos hbl
                  rw [hd] at HDL HCD
                  clear hfd hg hd hbl hys
                  rcases hw with hw | hw
                  all_goals
                    rw [hw] at d0
                    go_wp2_with fail
                    refine HGN.out.mono ?_
                    rintro e W3 ⟨rfl, hK3, hb3⟩
                    obtain ⟨i1, i2⟩ := CELLS.out _ _ hK3
                    go_wp2_with fail
                    refine (HDL.out _ hK3).mono ?_
                    rintro e W4 ⟨q, rfl, hqa, hql, hq⟩
                    obtain ⟨qa, qc, hqv⟩ : ∃ a c, q.bv = .slice a q.bs.length c := by
                      obtain ⟨_, _, _, _, _, _, _, ho, _⟩ := hq
                      exact ownB_slice ho
                    have hK4 := hq.ks
                    generalize q.bs.length = qn at hqv hql
                    unfold Pk.val
                    rw [hqv]
                    dsimp only at hK4 ⊢
                    clear hq
                    go_wp2_with fail
                    go_roundw
                    case rel => exact ⟨k + 1, honN hon x, _, by simp, by omega, CBox6.drop (hK4.box _).drop_box, HCD.out⟩
                    case measure => simp [intOf]; omega
                · have hd : A.deliver x.id = (A.note (A.fl.eraseIdx ix) 2 y.id, ⟨y.frm, y.to, y.bs⟩, 0) := by unfold Abs.deliver; rw [hfd]; exact if_neg hbl
                  rw [hd] at HDL HCD
                  have HSENT : Hid (∀ ww (q : Pk), KS w (w.heap.size + 1) (A.note (A.fl.eraseIdx ix) 2 y.id) (CBox6 w.heap.size wr.heap.size (honN hon x) x) ww → rdB ww q.bv q.bs → q.abs = ⟨y.frm, y.to, y.bs⟩ →
                      ∃ sb : Bool, (A.genu y = true → sb = true) ∧ Calls Try.prog 17 #[.pointer (some ⟨w.heap.size + 1, 0, none⟩), q.val] ww fun e w' => e = .returned (.bool sb) ∧ Below ww.heap.size ww w') := Lib.hid fun ww q hk hr hqa => by
                    obtain ⟨ρ, N, R, hA, _⟩ := hk
                    have hh : N.hist.map Pk.abs = A.hist := congrArg Abs.hist hA
                    have hsm : Small N := Tiny.small (by rw [hA]; exact HCD.out.tiny (by omega))
                    have call := sent_any R hsm q hr
                    rw [hh] at call
                    refine ⟨_, fun hg => ?_, call⟩
                    obtain ⟨q', hq', hs⟩ := genu_hist hg hys
                    rw [List.any_eq_true]
                    refine ⟨q', hq', ?_⟩
                    rw [hqa]
                    simp only [sameA, Bool.and_eq_true, beq_iff_eq, decide_eq_true_eq] at hs
                    simp [sameQ, hs.1.1, hs.1.2, hs.2]
                  clear hfd hg hd hbl hys
                  generalize A.genu y = gy at HGN HSENT
                  rcases hw with hw | hw
                  all_goals
                    rw [hw] at d0
                    go_wp2_with fail
                    refine HGN.out.mono ?_
                    rintro e W3 ⟨rfl, hK3, hb3⟩
                    obtain ⟨i1, i2⟩ := CELLS.out _ _ hK3
                    go_wp2_with fail
                    refine (HDL.out _ hK3).mono ?_
                    rintro e W4 ⟨q, rfl, hqa, hql, hq⟩
                    obtain ⟨qa, qc, hqv⟩ : ∃ a c, q.bv = .slice a q.bs.length c := by
                      obtain ⟨_, _, _, _, _, _, _, ho, _⟩ := hq
                      exact ownB_slice ho
                    have hrq : rdB W4 q.bv q.bs := by
                      obtain ⟨_, _, _, _, _, _, _, ho, _⟩ := hq
                      exact ownB_rd ho (by omega)
                    have hK4 := hq.ks
                    obtain ⟨qn, hqn⟩ : ∃ qn, q.bs.length = qn := ⟨_, rfl⟩
                    rw [hqn] at hqv
                    obtain ⟨W5, hW5⟩ : ∃ W5, W5 = W4.alloc (.cells #[.string q.frm, .string q.to, .slice qa qn qc] 35) := ⟨_, rfl⟩
                    have hb5 : Below W4.heap.size W4 W5 := by rw [hW5]; exact (Below.refl _ _).alloc (Nat.le_refl _) _
                    have hK5 := hK4.stays hb5
                    obtain ⟨sb, hsb, call⟩ := HSENT.out W5 q hK5 (hrq.below hb5) hqa
                    obtain ⟨i3, i4⟩ := CELLS.out _ _ hK5
                    have y5 : W5.heap[W4.heap.size]? = some (.cells #[.string q.frm, .string q.to, .slice qa qn qc] 35 (0, 0)) := by rw [hW5]; exact new_at rfl
                    have p0 : W5.cell? ⟨W4.heap.size, 0, none⟩ = some (.string q.frm) := by rw [cell_of_row _ _ _ _ _ _ y5]; rfl
                    have p1 : W5.cell? ⟨W4.heap.size, 1, none⟩ = some (.string q.to) := by rw [cell_of_row _ _ _ _ _ _ y5]; rfl
                    have p2 : W5.cell? ⟨W4.heap.size, 2, none⟩ = some (.slice qa qn qc) := by rw [cell_of_row _ _ _ _ _ _ y5]; rfl
                    unfold Pk.val at call ⊢
                    rw [hqv] at call ⊢
                    have HK5 := Lib.hid hK5
                    have HCALL := Lib.hid call
                    have HW5 := Lib.hid hW5
                    clear hq hqa hql hrq hqn hqv hK4 hb5 hK5 call y5 hW5 i1 i2 hb3 hK3
                    dsimp only
                    go_upto_region 24 with fail
                    rw [← HW5.out]
                    cases gy
                    all_goals
                      cases sb
                      all_goals first
                        | (exact absurd (hsb rfl) Bool.false_ne_true)
                        | (go_wp2_with fail
                           refine HCALL.out.mono ?_
                           rintro e W6 ⟨rfl, hb6⟩
                           go_wp2_with fail
                           go_roundw
                           case rel => exact ⟨k + 1, honN hon x, _, by simp, by omega, CBox6.drop (HK5.out.stays hb6), HCD.out⟩
                           case measure => simp [intOf]; omega)
          have h5 : ¬ x.what = 5 := fun e => hw (.inl e)
          have h6 : ¬ x.what = 6 := fun e => hw (.inr e)
          clear hw hcut
          go_wp2_with fail
          go_roundw
          case rel => exact ⟨k + 1, honN hon x, _, by simp, by omega, CBox6.drop HCUT.out, HC.out.mono honN_of (by omega)⟩
          case measure => simp [intOf]; omega
      · obtain rfl : k = n := by omega
        go_wp2_with fail
        go_meet
        exact ⟨hon, A, hS⟩
  case rest =>
    as_aux_lemma =>
      obtain ⟨hon, A, hS⟩ := hcut
      have HT : Hid (Tiny A) := Lib.hid (hS.2.tiny (by omega))
      have HCN := Lib.hid hS.2
      have y3 := hS.1.kept (x := (w.heap.size + 2, .cells #[.pointer (some ⟨w.heap.size + 1, 0, none⟩)] 23)) (by simp [CBox])
      dsimp only at y3
      have dp : wc.cell? ⟨w.heap.size + 1 + 1, 0, none⟩ = some (.pointer (some ⟨w.heap.size + 1, 0, none⟩)) := by rw [cell_of_row _ _ _ _ _ _ y3]; rfl
      have FL : Hid (∀ ww, KS w (w.heap.size + 1) A (CBox w.heap.size hon) ww → Calls Try.prog 22 #[.pointer (some ⟨w.heap.size + 1, 0, none⟩)] ww fun e w' => FlIt w' ww.heap.size A.fl e ∧ KS w (w.heap.size + 1) A (CBox w.heap.size hon) w' ∧ Below ww.heap.size ww w') := Lib.hid fun ww hk => hk.flightA HT.out
      have EV : Hid (∀ ww, KS w (w.heap.size + 1) A (CBox w.heap.size hon) ww → Calls Try.prog 23 #[.pointer (some ⟨w.heap.size + 1, 0, none⟩)] ww fun e w' => EvSeq ww w' A.evs e ∧ KS w (w.heap.size + 1) A (CBox w.heap.size hon) w' ∧ Below ww.heap.size ww w') := Lib.hid fun ww hk => hk.eventsA HT.out
      have HK := Lib.hid hS.1
      clear y3 hS
      go_upto_region 34 with fail
      go_cut [11, 12] from 11 to 158 (fun s11 s12 wx => ∃ B v L B2 v2, s11 = .func (.func 43) #[] #[.pointer (some ⟨B, 0, none⟩)] ∧ s12 = .func (.func 61) #[] #[.pointer (some ⟨B2, 0, none⟩)] ∧ FlSeq wx w.heap.size A.fl B v L ∧ (∀ x ∈ L, x.p.bs.length ≤ 65536) ∧ wx.heap[B2]? = some (.cells #[v2] 26 (0, 0)) ∧ wx.ownsRow 0 59 3 v2 A.evs.length (A.evs.flatMap Ev.cells) ∧ KS w (w.heap.size + 1) A (CBox w.heap.size hon) wx)
      case first =>
        have FL2 : Hid (∀ ww, KS w (w.heap.size + 1) A (CBox w.heap.size hon) ww → Calls Try.prog 22 #[.pointer (some ⟨w.heap.size + 1, 0, none⟩)] ww fun e w' => KS w (w.heap.size + 1) A (CBox w.heap.size hon) w' ∧ ∃ B v L, e = .returned (.func (.func 43) #[] #[.pointer (some ⟨B, 0, none⟩)]) ∧ FlSeq w' ww.heap.size A.fl B v L ∧ (∀ x ∈ L, x.p.bs.length ≤ 65536)) := Lib.hid fun ww hk => (FL.out ww hk).mono fun e w' ⟨h1, h2, h3⟩ => ⟨h2, h1.seq⟩
        have DRW : Hid (KS w (w.heap.size + 1) A (CBox w.heap.size hon) wc.drew) := Lib.hid HK.out.drew
        have CELLP : Hid (∀ ww, KS w (w.heap.size + 1) A (CBox w.heap.size hon) ww → ww.cell? ⟨w.heap.size + 1 + 1, 0, none⟩ = some (.pointer (some ⟨w.heap.size + 1, 0, none⟩))) := Lib.hid fun ww hk => by
          have y3 := hk.kept (x := (w.heap.size + 2, .cells #[.pointer (some ⟨w.heap.size + 1, 0, none⟩)] 23)) (by simp [CBox])
          dsimp only at y3
          rw [cell_of_row _ _ _ _ _ _ y3]; rfl
        have HSZ : Hid (w.heap.size ≤ wc.drew.heap.size) := Lib.hid HK.out.below.size
        clear HK FL
        have dd : wc.drew.cell? ⟨w.heap.size + 1 + 1, 0, none⟩ = some (.pointer (some ⟨w.heap.size + 1, 0, none⟩)) := CELLP.out _ DRW.out
        refine wp_region_bar (by kernel_rfl) 6 (by rfl) ?_
        refine (show wpAny _ _ _ _ (5 + 1) _ _ _ from ?_)
        refine wpAny_pick [0, 2] (by kernel_rfl) (by simp) ?_
        intro i hi
        rcases (by simpa using hi : i = 0 ∨ i = 2) with rfl | rfl
        · skip
          clear hi
          refine wpOp_at rfl rfl ?_
          unfold Oper.wp
          go_simp
          refine wpAny_pick [1, 2] (by kernel_rfl) (by simp) ?_
          intro i hi
          rcases (by simpa using hi : i = 1 ∨ i = 2) with rfl | rfl
          · skip
            clear hi
            refine wpOp_at rfl rfl ?_
            unfold Oper.wp
            go_simp
            refine (FL2.out _ DRW.out).mono ?_
            rintro e w1 ⟨hk, B, v, L, rfl, hF, hl⟩
            have dp1 := CELLP.out w1 hk
            go_simp
            refine wpAny_pick [2] (by kernel_rfl) (by simp) ?_
            intro i hi
            obtain rfl : i = 2 := by simpa using hi
            clear hi
            refine wpOp_at rfl rfl ?_
            unfold Oper.wp
            go_simp
            refine wpAny_pick [3] (by kernel_rfl) (by simp) ?_
            intro i hi
            obtain rfl : i = 3 := by simpa using hi
            clear hi
            refine wpOp_at rfl rfl ?_
            unfold Oper.wp
            go_simp
            refine (EV.out _ hk).mono ?_
            rintro e w2 ⟨⟨⟨B2, v2, rfl, h1, h2, h3, h4⟩, hb2⟩, hk2, -⟩
            refine wpAny_pick [4] (by kernel_rfl) (by simp) ?_
            intro i hi
            obtain rfl : i = 4 := by simpa using hi
            clear hi
            refine wpOp_at rfl rfl ?_
            unfold Oper.wp
            go_simp
            refine wpAny_pick [5] (by kernel_rfl) (by simp) ?_
            intro i hi
            obtain rfl : i = 5 := by simpa using hi
            clear hi
            refine wpOp_at rfl rfl ?_
            unfold Oper.wp
            go_simp
            refine ⟨by kernel_rfl, ?_⟩
            go_wp2_with fail
            go_meet
            exact ⟨B, v, L, B2, v2, rfl, rfl, (hF.below hb2).base HSZ.out, hl, h2, h3, hk2⟩
          · skip
            clear hi
            refine wpOp_at rfl rfl ?_
            unfold Oper.wp
            go_simp
            refine wpAny_pick [1] (by kernel_rfl) (by simp) ?_
            intro i hi
            obtain rfl : i = 1 := by simpa using hi
            clear hi
            refine wpOp_at rfl rfl ?_
            unfold Oper.wp
            go_simp
            refine (FL2.out _ DRW.out).mono ?_
            rintro e w1 ⟨hk, B, v, L, rfl, hF, hl⟩
            have dp1 := CELLP.out w1 hk
            go_simp
            refine wpAny_pick [3] (by kernel_rfl) (by simp) ?_
            intro i hi
            obtain rfl : i = 3 := by simpa using hi
            clear hi
            refine wpOp_at rfl rfl ?_
            unfold Oper.wp
            go_simp
            refine (EV.out _ hk).mono ?_
            rintro e w2 ⟨⟨⟨B2, v2, rfl, h1, h2, h3, h4⟩, hb2⟩, hk2, -⟩
            refine wpAny_pick [4] (by kernel_rfl) (by simp) ?_
            intro i hi
            obtain rfl : i = 4 := by simpa using hi
            clear hi
            refine wpOp_at rfl rfl ?_
            unfold Oper.wp
            go_simp
            refine wpAny_pick [5] (by kernel_rfl) (by simp) ?_
            intro i hi
            obtain rfl : i = 5 := by simpa using hi
            clear hi
            refine wpOp_at rfl rfl ?_
            unfold Oper.wp
            go_simp
            refine ⟨by kernel_rfl, ?_⟩
            go_wp2_with fail
            go_meet
            exact ⟨B, v, L, B2, v2, rfl, rfl, (hF.below hb2).base HSZ.out, hl, h2, h3, hk2⟩
        · skip
          clear hi
          refine wpOp_at rfl rfl ?_
          unfold Oper.wp
          go_simp
          refine wpAny_pick [0] (by kernel_rfl) (by simp) ?_
          intro i hi
          obtain rfl : i = 0 := by simpa using hi
          clear hi
          refine wpOp_at rfl rfl ?_
          unfold Oper.wp
          go_simp
          refine wpAny_pick [1] (by kernel_rfl) (by simp) ?_
          intro i hi
          obtain rfl : i = 1 := by simpa using hi
          clear hi
          refine wpOp_at rfl rfl ?_
          unfold Oper.wp
          go_simp
          refine (FL2.out _ DRW.out).mono ?_
          rintro e w1 ⟨hk, B, v, L, rfl, hF, hl⟩
          have dp1 := CELLP.out w1 hk
          go_simp
          refine wpAny_pick [3] (by kernel_rfl) (by simp) ?_
          intro i hi
          obtain rfl : i = 3 := by simpa using hi
          clear hi
          refine wpOp_at rfl rfl ?_
          unfold Oper.wp
          go_simp
          refine (EV.out _ hk).mono ?_
          rintro e w2 ⟨⟨⟨B2, v2, rfl, h1, h2, h3, h4⟩, hb2⟩, hk2, -⟩
          refine wpAny_pick [4] (by kernel_rfl) (by simp) ?_
          intro i hi
          obtain rfl : i = 4 := by simpa using hi
          clear hi
          refine wpOp_at rfl rfl ?_
          unfold Oper.wp
          go_simp
          refine wpAny_pick [5] (by kernel_rfl) (by simp) ?_
          intro i hi
          obtain rfl : i = 5 := by simpa using hi
          clear hi
          refine wpOp_at rfl rfl ?_
          unfold Oper.wp
          go_simp
          refine ⟨by kernel_rfl, ?_⟩
          go_wp2_with fail
          go_meet
          exact ⟨B, v, L, B2, v2, rfl, rfl, (hF.below hb2).base HSZ.out, hl, h2, h3, hk2⟩
      case rest =>
        obtain ⟨B, v, L, B2, v2, rfl, rfl, hF, hl, h2, h3, hK⟩ := hcut
        have q1 := eqlFn43
        have q2 := eqlFn
        have HFS := Lib.hid hF
        have HLS := Lib.hid hl
        have H2 := Lib.hid h2
        have H3 := Lib.hid h3
        have HK2 := Lib.hid hK
        have KB := Lib.hid (hK.box (.cells #[.int .i64 0] 3)).n
        clear hF hl h2 h3 hK HK dp
        go_wp2_with fail
        obtain ⟨C, hC⟩ : ∃ C, wc.heap.size = C := ⟨_, rfl⟩
        obtain ⟨W1, hW1⟩ : ∃ W1, W1 = wc.alloc (.cells #[.int .i64 0] 3) := ⟨_, rfl⟩
        have b1 : Below wc.heap.size wc W1 := by rw [hW1]; exact (Below.refl _ _).alloc (Nat.le_refl _) _
        have z1 : W1.heap.size = C + 1 := by rw [hW1, ← hC]; simp
        have H2' : Hid (W1.heap[B2]? = some (.cells #[v2] 26 (0, 0))) := Lib.hid ((b1.block _ (Array.getElem?_eq_some_iff.1 H2.out).1).trans H2.out)
        have H3' : Hid (W1.ownsRow 0 59 3 v2 A.evs.length (A.evs.flatMap Ev.cells)) := Lib.hid (row_stays H3.out fun b hb => b1.block b (H3.out.lt b hb).2)
        have HF' : Hid (FlSeq W1 w.heap.size A.fl B v L) := Lib.hid (HFS.out.below b1)
        have HCW : Hid (w.heap.size ≤ C) := Lib.hid (by rw [← hC]; exact HK2.out.below.size)
        have HV : Hid (∀ b, v2.ownBlock = some b → b < C) := Lib.hid fun b hb => by have := (H3.out.lt b hb).2; omega
        have HVF : Hid (∀ k, SF v L k → k < C) := Lib.hid fun k hk => by
          rcases hk with hk | ⟨q, hq, hk⟩
          · have := (HFS.out.row.lt k hk).2; omega
          · have := ((HFS.out.own q hq).lt k hk).2; omega
        have HBX : Hid (B < C) := Lib.hid (by have := (Array.getElem?_eq_some_iff.1 HFS.out.box).1; omega)
        have HNE : Hid (∀ x ∈ CBox w.heap.size hon, x.1 ≠ C) := Lib.hid fun x hx => by
          have := (Array.getElem?_eq_some_iff.1 (HK2.out.kept hx)).1
          omega
        rw [← hW1]
        rw [← hW1, hC] at KB
        rw [hC]
        have HZ1 := Lib.hid z1
        have HT' := HT.out
        have he1 : A.evs.length ≤ 1000000 := HT.out.evs
        have hf1 : A.fl.length ≤ 1000000 := HT.out.fl
        clear q1 q2 HFS H2 H3 HK2 b1 z1 hW1 hC HT'
        refine (wpIn_wide (n := 3)).1 ?_
        refine range_evx1 ?a1 rfl he1 H2'.out H3'.out (fun (pre : List (Nat × Ev)) (W : World) => KSn w (w.heap.size + 1) A ((C, .cells #[.int .i64 (bal (pre.map Prod.snd))] 3) :: CBox w.heap.size hon) W1.heap.size W ∧ Below C W1 W) (fun _ _ _ => False)
          (fun s A B' row hs hg hr => ⟨hs.1.grown hg (fun r e => (hr r e).1), hs.2.grown hg (by have := hs.2.size; have := HZ1.out; omega) (fun r e => by have := (hr r e).1; have := HZ1.out; omega)⟩) (fun _ _ _ _ _ hs _ _ => hs) ⟨KB.out, Below.refl _ _⟩ ?assign ?body ?done ?stop
        case stop => exact fun D c k W _ _ h _ => h.elim
        case assign =>
          rintro l pre x W K hI hx hK
          have bb : Below W.heap.size W (W.alloc (.cells #[.int .i64 x.2.kind, .int .i64 x.2.id, .int .i64 x.2.frm] 59)) := (Below.refl _ _).alloc (Nat.le_refl _) _
          have HI1 := Lib.hid hI
          have HK := Lib.hid hK
          have hWs : W1.heap.size ≤ W.heap.size := by
            obtain ⟨⟨_, _, _, _, _, _, _, _, h, _⟩, _⟩ := hI
            exact h
          have HKP : Hid (KpR v2.ownBlock W (W.alloc (.cells #[.int .i64 x.2.kind, .int .i64 x.2.id, .int .i64 x.2.frm] 59))) := Lib.hid ⟨by simp, fun k e => old_at (by have h1 := HV.out k e; have := HZ1.out; omega)⟩
          clear hI hx hK
          simp only [encE, List.zip_toArray, List.zip_cons_cons, List.zip_nil_right, List.foldl_toArray, List.foldl_cons, List.foldl_nil, List.setIfInBounds_toArray, List.set_cons_succ, List.set_cons_zero]
          gi_wp2
          have NW : (W.alloc (.cells #[.int .i64 x.2.kind, .int .i64 x.2.id, .int .i64 x.2.frm] 59)).heap[W.heap.size]? = some (.cells #[.int .i64 x.2.kind, .int .i64 x.2.id, .int .i64 x.2.frm] 59 (0, 0)) := new_at rfl
          have HK' := HK.out
          have ED : ∃ D, W.heap.size = D := ⟨_, rfl⟩
          obtain ⟨D, hD⟩ := ED
          rw [hD] at NW hWs ⊢
          exact HK' D _ (keepsFrom_below bb) HKP.out ⟨HI1.out.1.below bb, HI1.out.2.trans (bb.mono (by have := HI1.out.2.size; have := HZ1.out; omega))⟩ NW hWs
        case body =>
          as_aux_lemma =>
            rintro l pre x D W ⟨hI, hBC⟩ hbx hDW hxp hlen
            have HBC := Lib.hid hBC
            clear hBC
            have xc := hI.ks.kept (List.mem_cons_self ..)
            dsimp only at xc
            have m0 : W.cell? ⟨C, 0, none⟩ = some (.int .i64 (bal (pre.map Prod.snd))) := by rw [cell_of_row _ _ _ _ _ _ xc]; rfl
            have m1 : W.cell? ⟨D, 0, none⟩ = some (.int .i64 x.2.kind) := by rw [cell_of_row _ _ _ _ _ _ hbx]; rfl
            have g0 := frozen_blk xc 0
            have hbd := bal_bd (pre.map Prod.snd)
            have hl6 : pre.length < 1000000 := by omega
            simp only [List.length_map] at hbd
            have NX : Hid (∀ z : Int, wt x.2.kind = z → KSn w (w.heap.size + 1) A ((C, .cells #[.int .i64 (bal ((pre ++ [x]).map Prod.snd))] 3) :: CBox w.heap.size hon) W1.heap.size (W.setCell ⟨C, 0, none⟩ (.int .i64 (bal (pre.map Prod.snd) + z)))) := Lib.hid fun z hz => by
              have := hI.put HCW.out HNE.out 0 (.int .i64 (bal (pre.map Prod.snd) + z))
              rw [List.map_append, bal_append]
              simpa [bal, hz] using this
            have NX0 : Hid (wt x.2.kind = 0 → KSn w (w.heap.size + 1) A ((C, .cells #[.int .i64 (bal ((pre ++ [x]).map Prod.snd))] 3) :: CBox w.heap.size hon) W1.heap.size W) := Lib.hid fun hz => by
              rw [List.map_append, bal_append]
              simpa [bal, hz] using hI
            have KO2 : Hid (∀ z, KeepsFrom W1.heap.size W (W.setCell ⟨C, 0, none⟩ z) ∧ KpR v2.ownBlock W (W.setCell ⟨C, 0, none⟩ z)) := Lib.hid fun z =>
              ⟨(KeepsOthers.setCell _ _ _).from _, by simp, fun k e => set_other (show k ≠ C by have := HV.out k e; omega)⟩
            generalize bal (pre.map Prod.snd) = bb at m0 hbd NX
            have hb1 : (-9223372036854775808 : Int) ≤ bb + 1 := by omega
            have hb2 : bb + 1 ≤ 9223372036854775807 := by omega
            have hb3 : (-9223372036854775808 : Int) ≤ bb - 1 := by omega
            have hb4 : bb - 1 ≤ 9223372036854775807 := by omega
            clear xc hI hlen hl6 hbd hbx hxp
            by_cases c1 : x.2.kind = 1
            · rw [c1] at m1
              gi_wp2
              exact ⟨(KO2.out _).1, (KO2.out _).2, ⟨NX.out 1 (by rw [c1]; rfl), HBC.out.setCell (p := ⟨C, 0, none⟩) (Nat.le_refl _) _⟩⟩
            by_cases c2 : x.2.kind = 8
            · rw [c2] at m1
              gi_wp2
              exact ⟨(KO2.out _).1, (KO2.out _).2, ⟨NX.out 1 (by rw [c2]; rfl), HBC.out.setCell (p := ⟨C, 0, none⟩) (Nat.le_refl _) _⟩⟩
            by_cases c3 : x.2.kind = 7
            · rw [c3] at m1
              gi_wp2
              exact ⟨(KO2.out _).1, (KO2.out _).2, ⟨NX.out 1 (by rw [c3]; rfl), HBC.out.setCell (p := ⟨C, 0, none⟩) (Nat.le_refl _) _⟩⟩
            by_cases c4 : x.2.kind = 4
            · rw [c4] at m1
              gi_wp2
              exact ⟨(KO2.out _).1, (KO2.out _).2, ⟨NX.out 1 (by rw [c4]; rfl), HBC.out.setCell (p := ⟨C, 0, none⟩) (Nat.le_refl _) _⟩⟩
            by_cases c5 : x.2.kind = 2
            · rw [c5] at m1
              gi_wp2
              exact ⟨(KO2.out _).1, (KO2.out _).2, ⟨NX.out (-1) (by rw [c5]; rfl), HBC.out.setCell (p := ⟨C, 0, none⟩) (Nat.le_refl _) _⟩⟩
            by_cases c6 : x.2.kind = 3
            · rw [c6] at m1
              gi_wp2
              exact ⟨(KO2.out _).1, (KO2.out _).2, ⟨NX.out (-1) (by rw [c6]; rfl), HBC.out.setCell (p := ⟨C, 0, none⟩) (Nat.le_refl _) _⟩⟩
            gi_wp2
            exact ⟨(KeepsOthers.refl _).from _, KpR.refl _ _, ⟨NX0.out (by simp [wt, c1, c2, c3, c4, c5, c6]), HBC.out⟩⟩
        case done =>
          rintro D1 W hD1 ⟨hI, hBC⟩ hK1
          dsimp only
          rw [upE_snd, HCN.out.bal] at hI
          have hWs : W1.heap.size ≤ W.heap.size := hBC.size
          have hLl : L.length = A.fl.length := by rw [← HF'.out.abs]; simp
          have hF2 : FlSeq W w.heap.size A.fl B v L := by
            have hz := HZ1.out
            have h0 := HF'.out
            exact ⟨(hBC.block _ (HBX.out)).trans h0.box, h0.hB, row_stays h0.row fun b hb => hBC.block b (HVF.out b (.inl hb)), h0.far, h0.abs, fun x hx => row_stays (h0.own x hx) fun b hb => hBC.block b (HVF.out b (.inr ⟨x, hx, hb⟩)), h0.ofar⟩
          have HI := Lib.hid hI
          have HK1 := Lib.hid hK1
          have HF2 := Lib.hid hF2
          have HLl := Lib.hid hLl
          have HWS := Lib.hid hWs
          have hL1 : L.length ≤ 1000000 := by omega
          have hVW : ∀ k, SF v L k → k < W.heap.size := fun k hk => by have := HVF.out k hk; have := HZ1.out; omega
          have HVW := Lib.hid hVW
          have hD1W : D1 < W.heap.size := (Array.getElem?_eq_some_iff.1 hK1).1
          have hwW : w.heap.size ≤ W.heap.size := by have := HCW.out; have := HZ1.out; omega
          clear hI hK1 hF2 hLl hWs hBC hVW
          go_wp2_with fail
          have FP := fl43_px 2 B w.heap.size v L W hL1 HF2.out.box HF2.out.row HF2.out.own HLS.out hwW
          rw [HF2.out.abs] at FP
          refine (wpIn_wide (n := 3)).1 ?_
          refine range_px0 ?a2 rfl (enters_of Try.func43 (by kernel_rfl) rfl) FP HVW.out
            (fun (pre : List (Nat × Pk)) (W' : World) => KSn w (w.heap.size + 1) A ((C, .cells #[.int .i64 ((A.fl.length : Int) - pre.length)] 3) :: CBox w.heap.size hon) W1.heap.size W' ∧ W'.heap[D1]? = some (.deferred (some [])) ∧ W.heap.size ≤ W'.heap.size) (fun _ _ _ => False)
            (fun s A' B' row hs hg hr => ⟨hs.1.grown hg (fun r e => Nat.le_trans HWS.out (hr r e).1), (hg.block _ (Array.getElem?_eq_some_iff.1 hs.2.1).1 (fun e => by have := (hr _ e.symm).1; omega)).trans hs.2.1, Nat.le_trans hs.2.2 hg.size⟩) (fun _ _ _ _ _ hs _ _ => hs) ⟨by simpa using HI.out, HK1.out, Nat.le_refl _⟩ (pxF_own _ _ _) ?assign ?body ?done ?stop
          case stop => exact fun D c k W _ _ h _ => h.elim
          case assign =>
            rintro l pre x W K hI hx hK
            have HK := Lib.hid hK
            clear hI hx hK
            unfold encP Pk.val
            dsimp only
            simp only [List.zip_toArray, List.zip_cons_cons, List.zip_nil_right, List.foldl_toArray, List.foldl_cons, List.foldl_nil, List.setIfInBounds_toArray, List.set_cons_succ, List.set_cons_zero]
            gi_wp2
            exact HK.out
          case body =>
            as_aux_lemma =>
              rintro l pre x Wb ⟨hI, hd1, hWb⟩ hPx hlt
              rw [HLl.out] at hlt
              have hxe := congrArg Prod.fst hPx.1
              obtain ⟨y, hy⟩ : ∃ y, A.fl[pre.length]? = some y := ⟨_, List.getElem?_eq_getElem hlt⟩
              have hgd : A.fl.getD pre.length zeroF = y := by simp [List.getD, hy]
              rw [hgd] at hxe
              have hym := List.mem_of_getElem? hy
              obtain ⟨ix, hfd⟩ := find_id hI.ks.ids hym
              have hxid : ((x.1 : Nat) : Int) = (y.id : Nat) := by show ((absP x).1 : Int) = _; rw [hxe]; rfl
              have hid := hI.ks.idn y hym
              have hnx := HT.out.next
              have GC := hI.ks.genuineA HT.out HCN.out.src (y.id : Nat) (by omega)
              have hge : A.genuine (y.id : Nat) = (A.genu y, 0) := by unfold Abs.genuine; rw [hfd]
              rw [hge, ← hxid] at GC
              have hgt : hon = true → A.genu y = true := fun e => HCN.out.hon e y hym
              have y3 := hI.ks.kept (x := (w.heap.size + 2, .cells #[.pointer (some ⟨w.heap.size + 1, 0, none⟩)] 23)) (by simp [CBox])
              dsimp only at y3
              have dp : Wb.cell? ⟨w.heap.size + 1 + 1, 0, none⟩ = some (.pointer (some ⟨w.heap.size + 1, 0, none⟩)) := by rw [cell_of_row _ _ _ _ _ _ y3]; rfl
              have hCs : C < W1.heap.size := by have := HZ1.out; omega
              have HGC := Lib.hid GC
              have HIB := Lib.hid hI
              have HD1 := Lib.hid hd1
              clear GC hge hxid hid hnx hfd hym hgd hxe hPx y3 hI hd1 hy
              generalize A.genu y = gy at HGC hgt
              have HLT := Lib.hid hlt
              clear hlt
              gi_wp2_with fail
              refine ⟨trivial, (((callsIn_wide (n := 0)).2 HGC.out).inRound l).mono ?_⟩
              rintro e W2 ⟨rfl, hK2, hb2⟩
              have hI2 := HIB.out.below hb2
              have xc := hI2.ks.kept (List.mem_cons_self ..)
              have xh := hI2.ks.kept (x := (w.heap.size + 3, .cells #[.bool hon] 4)) (by simp [CBox])
              dsimp only at xc xh
              have m0 : W2.cell? ⟨C, 0, none⟩ = some (.int .i64 ((A.fl.length : Int) - pre.length)) := by rw [cell_of_row _ _ _ _ _ _ xc]; rfl
              have m1 : W2.cell? ⟨w.heap.size + 1 + 1 + 1, 0, none⟩ = some (.bool hon) := by rw [cell_of_row _ _ _ _ _ _ xh]; rfl
              have g0 := frozen_blk xc 0
              have NX : Hid (KSn w (w.heap.size + 1) A ((C, .cells #[.int .i64 ((A.fl.length : Int) - (pre ++ [x]).length)] 3) :: CBox w.heap.size hon) W1.heap.size (W2.setCell ⟨C, 0, none⟩ (.int .i64 ((A.fl.length : Int) - pre.length - 1)))) := Lib.hid (by
                have := hI2.put HCW.out HNE.out 0 (.int .i64 ((A.fl.length : Int) - pre.length - 1))
                have e : (A.fl.length : Int) - ((pre ++ [x]).length : Nat) = (A.fl.length : Int) - pre.length - 1 := by simp; omega
                rw [e]
                exact this)
              have HD2 : Hid ((W2.setCell ⟨C, 0, none⟩ (.int .i64 ((A.fl.length : Int) - pre.length - 1))).heap[D1]? = some (.deferred (some []))) := Lib.hid (by
                have hl := (Array.getElem?_eq_some_iff.1 HD1.out).1
                rw [set_other (show D1 ≠ C by omega), hb2.block _ hl]
                exact HD1.out)
              have HKP : Hid (KeepsFrom W.heap.size Wb (W2.setCell ⟨C, 0, none⟩ (.int .i64 ((A.fl.length : Int) - pre.length - 1))) ∧ KpS (SF v L) Wb (W2.setCell ⟨C, 0, none⟩ (.int .i64 ((A.fl.length : Int) - pre.length - 1)))) := Lib.hid
                ⟨(keepsFrom_below hb2).trans ((KeepsOthers.setCell _ _ _).from _), by rw [set_size]; exact hb2.size, fun k hk => (set_other (show k ≠ C by have := HVF.out k hk; omega)).trans (hb2.block k (by have := HVW.out k hk; omega))⟩
              have HZB : Hid (W.heap.size ≤ (W2.setCell ⟨C, 0, none⟩ (.int .i64 ((A.fl.length : Int) - pre.length - 1))).heap.size) := Lib.hid (by rw [set_size]; exact Nat.le_trans hWb hb2.size)
              have hq1 : (-9223372036854775808 : Int) ≤ (A.fl.length : Int) - pre.length - 1 := by have := HLT.out; omega
              have hq2 : (A.fl.length : Int) - pre.length - 1 ≤ 9223372036854775807 := by omega
              clear xc xh hI2 hb2 hK2
              cases hon
              · gi_wp2_with fail
                exact ⟨HKP.out.1, HKP.out.2, NX.out, HD2.out, HZB.out⟩
              · obtain rfl : gy = true := hgt rfl
                gi_wp2_with fail
                exact ⟨HKP.out.1, HKP.out.2, NX.out, HD2.out, HZB.out⟩
          case done =>
            rintro D2 xs W2 hD2 hxs ⟨hI2, hd1, hWz⟩ hK2
            have hxl : xs.length = A.fl.length := by
              have h1 := congrArg List.length hxs
              rw [List.length_map, HLl.out] at h1
              rw [h1]
              simp [upF]
            rw [hxl, Int.sub_self] at hI2
            have hK := hI2.ks
            have xc := hK.kept (List.mem_cons_self ..)
            have xr := hK.kept (x := (w.heap.size, .cells #[.bool false] 4)) (by simp [CBox])
            dsimp only at xc xr
            have m0 : W2.cell? ⟨C, 0, none⟩ = some (.int .i64 0) := by rw [cell_of_row _ _ _ _ _ _ xc]; rfl
            have HXR := Lib.hid xr
            have HK := Lib.hid hK
            have HKD1 := Lib.hid hd1
            have HKD2 := Lib.hid hK2
            clear xc xr hK hd1 hK2 hI2 hxs hxl
            dsimp only
            go_wp2_with fail
            refine (known_any _).mono ?_
            rintro e W3 ⟨rfl, hb3⟩
            have xr : W3.heap[w.heap.size]? = some (.cells #[.bool false] 4 (0, 0)) := (hb3.block _ (Array.getElem?_eq_some_iff.1 HXR.out).1).trans HXR.out
            have d1 : W3.heap[D1]? = some (.deferred (some [])) := (hb3.block _ (Array.getElem?_eq_some_iff.1 HKD1.out).1).trans HKD1.out
            have d2 : W3.heap[D2]? = some (.deferred (some [])) := (hb3.block _ (Array.getElem?_eq_some_iff.1 HKD2.out).1).trans HKD2.out
            have g0 := frozen_blk xr 0
            have m1 : W3.cell? ⟨w.heap.size, 0, none⟩ = some (.bool false) := by rw [cell_of_row _ _ _ _ _ _ xr]; rfl
            have HB3 := Lib.hid hb3
            have HR3 := Lib.hid xr
            have HD13 := Lib.hid d1
            have HD23 := Lib.hid d2
            clear hb3 xr d1 d2
            go_wp2_with fail
            have hD12 : D1 ≠ D2 := by have := hD1W; omega
            have hR1 : D1 ≠ w.heap.size := by have := HCW.out; have := HZ1.out; omega
            have hR2 : D2 ≠ w.heap.size := by have := HCW.out; have := HZ1.out; have := HWS.out; omega
            obtain ⟨W4, hW4⟩ : ∃ W4, W4 = W3.setCell ⟨w.heap.size, 0, none⟩ (.bool true) := ⟨_, rfl⟩
            rw [← hW4]
            have e1 : W4.heap[D1]? = some (.deferred (some [])) := by rw [hW4, set_other hR1]; exact HD13.out
            have e2 : W4.heap[D2]? = some (.deferred (some [])) := by rw [hW4, set_other hR2]; exact HD23.out
            have e3 : W4.heap[w.heap.size]? = some (.cells #[.bool true] 4 (0, 0)) := by rw [hW4]; exact set_at HR3.out
            have e1' : (W4.putObj D2 (.deferred none)).heap[D1]? = some (.deferred (some [])) := (World.putObj_heap_other hD12).trans e1
            refine ⟨by simp, .inl ⟨_, _, rfl, run_takeDeferred e2, by simp, .inl ⟨_, _, rfl, run_takeDeferred e1', ?_⟩⟩⟩
            have e4 : ((W4.putObj D2 (.deferred none)).putObj D1 (.deferred none)).heap[w.heap.size]? = some (.cells #[.bool true] 4 (0, 0)) := (World.putObj_heap_other (Ne.symm hR1)).trans ((World.putObj_heap_other (Ne.symm hR2)).trans e3)
            have f0 : ((W4.putObj D2 (.deferred none)).putObj D1 (.deferred none)).cell? ⟨w.heap.size, 0, none⟩ = some (.bool true) := by rw [cell_of_row _ _ _ _ _ _ e4]; rfl
            have bw : Below w.heap.size w W4 := by
              rw [hW4]
              exact (HK.out.below.trans (HB3.out.mono HK.out.below.size)).setCell (p := ⟨_, _, _⟩) (Nat.le_refl _) _
            have hl1 : w.heap.size ≤ D1 := by have := HCW.out; have := HZ1.out; omega
            have hl2 : w.heap.size ≤ D2 := by omega
            exact ⟨.bool true, by simp [results, Try.results4, go_sem, f0], rfl, (bw.trans (belowK_b (w := w) (Nat.le_refl _) _ D2 _ _ hl2 e2 rfl rfl)).trans (belowK_b (w := w) (Nat.le_refl _) _ D1 _ _ hl1 e1' rfl rfl)⟩
end Go.Proofs.Ytiindnmelegkgaa
