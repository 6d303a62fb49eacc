/- index. -/
import Derived.Test.YtiindnmelegkgaaLaunch
import Derived.LoopTactic
section
namespace Go.Proofs.Ytiindnmelegkgaa
open Go.RowKit
set_option linter.unusedSimpArgs false
set_option linter.unusedVariables false

theorem flat_get {α β : Type} (f : α → List β) (s : Nat) (hf : ∀ x, (f x).length = s) : ∀ (l : List α) (k i : Nat), i < s → (l.flatMap f)[k * s + i]? = (l[k]?).bind (fun x => (f x)[i]?)
  | [], k, i, _ => by simp
  | x :: l, 0, i, h => by simp [List.flatMap_cons, List.getElem?_append_left (show i < (f x).length by rw [hf]; exact h)]
  | x :: l, k + 1, i, h => by
    rw [List.flatMap_cons, List.getElem?_append_right (by rw [hf, Nat.succ_mul]; omega), hf, show (k + 1) * s + i - s = k * s + i by rw [Nat.succ_mul]; omega, flat_get f s hf l k i h]
    simp

theorem fl_at {w : World} {g cap : Nat} {fl : List Fl} {m : Nat} (h : w.ownsRow 0 81 5 (.slice (some ⟨g, 0, none⟩) m cap) m (fl.flatMap Fl.cells)) {k : Nat} {x : Fl} (hk : fl[k]? = some x) (hm : fl.length = m) :
    ∀ i, i < 5 → w.cell? ⟨g, k * 5 + i, none⟩ = x.cells[i]? := by
  intro i hi
  have hlt : k < fl.length := (List.getElem?_eq_some_iff.1 hk).1
  rw [h.cellAt _ (by omega), flat_get Fl.cells 5 (fun _ => rfl) fl k i hi, hk]
  rfl

theorem cmp_any (a b c : Value) (i s id : Int) (w : World) : Calls Try.prog 58 #[.agg #[a, b, c, .int .i64 i, .int .i64 s], .int .i64 id] w fun e w' => e = .returned (.int .i64 (wrap64 (i - id))) ∧ Below w.heap.size w w' := by
  go_enter Try.func58, Try.ntmps58
  go_wp2
  go_ret
  exact ⟨rfl, (Below.refl _ _).alloc (Nat.le_refl _) _⟩

theorem mid_eq (l h : Nat) (h1 : l < h) (h2 : h ≤ 1073741824) : ∃ m : Nat, wrap64 (IntKind.u64.wrap (wrap64 ((l : Int) + (h : Int))) / 2) = (m : Int) ∧ l ≤ m ∧ m < h := by
  refine ⟨(l + h) / 2, ?_, by omega, by omega⟩
  have e1 : wrap64 ((l : Int) + (h : Int)) = (l : Int) + h := IntWalk.wrap64_in _ (by omega)
  have e2 : IntKind.u64.wrap ((l : Int) + (h : Int)) = (l : Int) + h := by simp only [IntKind.wrap]; simp [IntKind.signed, IntKind.bits]; omega
  rw [e1, e2, IntWalk.wrap64_in _ (by omega)]
  omega
/-- What the search knows at l and h. -/
def srI (fl : List Fl) (id : Int) (l h : Nat) : Prop := l ≤ h ∧ h ≤ fl.length ∧ (0 ≤ id → (∀ k x, k < l → fl[k]? = some x → (x.id : Int) < id) ∧ (∀ k x, h ≤ k → fl[k]? = some x → id ≤ (x.id : Int)))

theorem pw_lt {fl : List Fl} (hs : fl.Pairwise (fun x y => x.id < y.id)) {i j : Nat} {x y : Fl} (hij : i < j) (hx : fl[i]? = some x) (hy : fl[j]? = some y) : x.id < y.id := by
  obtain ⟨h1, rfl⟩ := List.getElem?_eq_some_iff.1 hx
  obtain ⟨h2, rfl⟩ := List.getElem?_eq_some_iff.1 hy
  exact List.pairwise_iff_getElem.1 hs i j h1 h2 hij
theorem srI_up {fl : List Fl} {id : Int} {l h m : Nat} {x : Fl} (H : srI fl id l h) (hs : fl.Pairwise (fun x y => x.id < y.id)) (hx : fl[m]? = some x) (hmh : m < h) (h1 : -9223372036854775808 ≤ id) (h2 : id ≤ 9223372036854775807) (hxb : x.id ≤ 1099511627776) (hc : wrap64 ((x.id : Int) - id) < 0) : srI fl id (m + 1) h := by
  refine ⟨hmh, H.2.1, fun h0 => ⟨fun k y hk hy => ?_, (H.2.2 h0).2⟩⟩
  have hxl : (x.id : Int) < id := by unfold wrap64 at hc; omega
  rcases Nat.lt_or_ge k m with h' | h'
  · have := pw_lt hs h' hy hx; omega
  · obtain rfl : k = m := by omega
    rw [hx] at hy; cases hy; exact hxl
theorem srI_down {fl : List Fl} {id : Int} {l h m : Nat} {x : Fl} (H : srI fl id l h) (hs : fl.Pairwise (fun x y => x.id < y.id)) (hx : fl[m]? = some x) (hlm : l ≤ m) (h1 : -9223372036854775808 ≤ id) (h2 : id ≤ 9223372036854775807) (hxb : x.id ≤ 1099511627776) (hc : ¬ wrap64 ((x.id : Int) - id) < 0) : srI fl id l m := by
  have hml := (List.getElem?_eq_some_iff.1 hx).1
  refine ⟨hlm, by omega, fun h0 => ⟨(H.2.2 h0).1, fun k y hk hy => ?_⟩⟩
  have hxl : id ≤ (x.id : Int) := by unfold wrap64 at hc; omega
  rcases Nat.lt_or_ge m k with h' | h'
  · have := pw_lt hs h' hx hy; omega
  · obtain rfl : k = m := by omega
    rw [hx] at hy; cases hy; exact hxl
theorem srI_none {fl : List Fl} {id : Int} {l : Nat} {x : Fl} (H : srI fl id l l) (hs : fl.Pairwise (fun x y => x.id < y.id)) (hx : fl[l]? = some x) (h0 : 0 ≤ id) (h2 : id ≤ 9223372036854775807) (hc : ¬ wrap64 ((x.id : Int) - id) = 0) : ∀ y ∈ fl, (y.id : Int) ≠ id := by
  intro y hy e
  obtain ⟨k, hk⟩ := List.mem_iff_getElem?.1 hy
  have h3 := H.2.2 h0
  have hxi : (x.id : Int) ≠ id := fun e => hc (by rw [e]; simp [wrap64])
  rcases Nat.lt_trichotomy k l with h' | h' | h'
  · have := h3.1 k y h' hk; omega
  · subst h'; rw [hx] at hk; cases hk; exact hxi e
  · have h4 := pw_lt hs h' hx hk
    have h5 := h3.2 l x (Nat.le_refl _) hx
    omega
theorem srI_past {fl : List Fl} {id : Int} {l : Nat} (H : srI fl id l l) (hl : fl.length ≤ l) (h0 : 0 ≤ id) : ∀ y ∈ fl, (y.id : Int) ≠ id := by
  intro y hy e
  obtain ⟨k, hk⟩ := List.mem_iff_getElem?.1 hy
  have hkl := (List.getElem?_eq_some_iff.1 hk).1
  have := (H.2.2 h0).1 k y (by omega) hk
  omega

set_option maxHeartbeats 1000000 in
set_option maxRecDepth 100000 in
theorem search_any (w : World) (fl : List Fl) (v : Value) (hrow : w.ownsRow 0 81 5 v fl.length (fl.flatMap Fl.cells)) (hs : fl.Pairwise (fun x y => x.id < y.id)) (hb : ∀ x ∈ fl, x.id ≤ 1099511627776) (hn : fl.length ≤ 1073741824) (id : Int) (h1 : -9223372036854775808 ≤ id) (h2 : id ≤ 9223372036854775807) :
    Calls Try.prog 57 #[v, .int .i64 id, .func (.func 58) #[] #[]] w fun e w' => (∃ (i : Nat) (b : Bool), e = .returned (.tuple #[.int .i64 i, .bool b]) ∧ (b = true → ∃ x, fl[i]? = some x ∧ (x.id : Int) = id) ∧ (0 ≤ id → b = false → ∀ x ∈ fl, (x.id : Int) ≠ id)) ∧ Below w.heap.size w w' := by
  obtain ⟨a, c, hv⟩ : ∃ a c, v = .slice a fl.length c := by
    rcases hrow.2 with ⟨h, h0⟩ | ⟨g, cap, cur, h, _⟩
    · exact ⟨none, 0, by rw [h, h0]⟩
    · exact ⟨_, _, h⟩
  obtain ⟨n, hnl⟩ : ∃ n, fl.length = n := ⟨_, rfl⟩
  rw [hnl] at hv hn hrow
  subst hv
  go_enter Try.func57, Try.ntmps57
  go_wp2_with fail
  go_loopw [9, 10] (fun p q wr => ∃ l h : Nat, p = .int .i64 l ∧ q = .int .i64 h ∧ srI fl id l h ∧ Below w.heap.size w wr) (fun p q _ => (intOf q - intOf p).toNat)
  case atStart => exact ⟨0, n, rfl, rfl, ⟨by omega, by omega, fun _ => ⟨fun k x hk => by omega, fun k x hk hx => by have := (List.getElem?_eq_some_iff.1 hx).1; omega⟩⟩, Below.refl _ _⟩
  case round =>
    obtain ⟨l, h, rfl, rfl, hI, hB⟩ := hrel
    by_cases hlh : l < h
    · obtain ⟨m, hm, hlm, hmh⟩ := mid_eq l h hlh (by have := hI.2.1; omega)
      obtain ⟨x, hx⟩ : ∃ x, fl[m]? = some x := ⟨fl[m]'(by have := hI.2.1; omega), List.getElem?_eq_getElem _⟩
      obtain ⟨g, rfl⟩ : ∃ g, a = some ⟨g, 0, none⟩ := by
        rcases hrow.2 with ⟨h, h0⟩ | ⟨g, cap, cur, h, _⟩
        · have := hI.2.1; omega
        · cases h; exact ⟨g, rfl⟩
      have hg := (hrow.lt g rfl).2
      have hr := row_stays (w' := wr) hrow (fun b hb => by cases hb; exact hB.block _ hg)
      have m0 := fl_at hr hx hnl 0 (by decide)
      have m1 := fl_at hr hx hnl 1 (by decide)
      have m2 := fl_at hr hx hnl 2 (by decide)
      have m3 := fl_at hr hx hnl 3 (by decide)
      have m4 := fl_at hr hx hnl 4 (by decide)
      simp [Fl.cells] at m0 m1 m2 m3 m4
      have hxb := hb x (List.mem_of_getElem? hx)
      have HI := Lib.hid hI
      have HS := Lib.hid hs
      have hmn : m < n := by have := hI.2.1; omega
      clear hI hrow hr hs hb
      by_cases hc : wrap64 ((x.id : Int) - id) < 0
      · go_wp2_with fail
        refine (cmp_any _ _ _ _ _ _ _).mono ?_
        rintro e w1 ⟨rfl, hb1⟩
        go_wp2_with fail
        go_roundw
        case rel => exact ⟨m + 1, h, by simp, rfl, srI_up HI.out HS.out hx hmh h1 h2 hxb hc, hB.trans (hb1.mono hB.size)⟩
        case measure => simp [intOf]; omega
      · go_wp2_with fail
        refine (cmp_any _ _ _ _ _ _ _).mono ?_
        rintro e w1 ⟨rfl, hb1⟩
        go_wp2_with fail
        go_roundw
        case rel => exact ⟨l, m, rfl, rfl, srI_down HI.out HS.out hx hlm h1 h2 hxb (by omega), hB.trans (hb1.mono hB.size)⟩
        case measure => simp [intOf]; omega
    · have hlh' : l = h := by have := hI.1; omega
      subst hlh'
      by_cases hln : l < n
      · obtain ⟨x, hx⟩ : ∃ x, fl[l]? = some x := ⟨fl[l]'(by omega), List.getElem?_eq_getElem _⟩
        obtain ⟨g, rfl⟩ : ∃ g, a = some ⟨g, 0, none⟩ := by
          rcases hrow.2 with ⟨h, h0⟩ | ⟨g, cap, cur, h, _⟩
          · omega
          · cases h; exact ⟨g, rfl⟩
        have hg := (hrow.lt g rfl).2
        have hr := row_stays (w' := wr) hrow (fun b hb => by cases hb; exact hB.block _ hg)
        have m0 := fl_at hr hx hnl 0 (by decide)
        have m1 := fl_at hr hx hnl 1 (by decide)
        have m2 := fl_at hr hx hnl 2 (by decide)
        have m3 := fl_at hr hx hnl 3 (by decide)
        have m4 := fl_at hr hx hnl 4 (by decide)
        simp [Fl.cells] at m0 m1 m2 m3 m4
        have hxb := hb x (List.mem_of_getElem? hx)
        have HI := Lib.hid hI
        have HS := Lib.hid hs
        clear hI hrow hr hs hb
        cases hc : (wrap64 ((x.id : Int) - id) == 0)
        · go_wp2_with fail
          refine (cmp_any _ _ _ _ _ _ _).mono ?_
          rintro e w1 ⟨rfl, hb1⟩
          rw [← hc]
          go_wp2_with fail
          go_ret2
          exact ⟨⟨l, false, by rw [← hc]; rfl, fun h => (by cases h), fun h0 _ => srI_none HI.out HS.out hx h0 h2 (by simpa using hc)⟩, hB.trans (hb1.mono hB.size)⟩
        · go_wp2_with fail
          refine (cmp_any _ _ _ _ _ _ _).mono ?_
          rintro e w1 ⟨rfl, hb1⟩
          go_wp2_with fail
          go_ret2
          refine ⟨⟨l, true, by rw [← hc]; rfl, fun _ => ⟨x, hx, ?_⟩, fun _ h => by cases h⟩, hB.trans (hb1.mono hB.size)⟩
          have hc' : wrap64 ((x.id : Int) - id) = 0 := by simpa using hc
          unfold wrap64 at hc'
          omega
      · have HI := Lib.hid hI
        clear hI hb hs hrow
        go_wp2_with fail
        go_ret2
        exact ⟨⟨l, false, rfl, fun h => (by cases h), fun h0 _ => srI_past HI.out (by omega) h0⟩, hB⟩
end Go.Proofs.Ytiindnmelegkgaa
end
/- index, over a network in memory. -/
section
namespace Go.Proofs.Ytiindnmelegkgaa
open Go.RowKit
set_option linter.unusedSimpArgs false
set_option linter.unusedVariables false

def Hits (fl : List Fl) (id : Int) (i : Nat) (x : Fl) : Prop := fl[i]? = some x ∧ (x.id : Int) = id
def Misses (fl : List Fl) (id : Int) : Prop := ∀ x ∈ fl, (x.id : Int) ≠ id
theorem hits_or (fl : List Fl) (id : Int) : (∃ i x, Hits fl id i x) ∨ Misses fl id := by
  by_cases h : ∃ x ∈ fl, (x.id : Int) = id
  · obtain ⟨x, hx, e⟩ := h
    obtain ⟨i, hi⟩ := List.mem_iff_getElem?.1 hx
    exact .inl ⟨i, x, hi, e⟩
  · exact .inr fun x hx e => h ⟨x, hx, e⟩
theorem Hits.unique {fl : List Fl} {id : Int} {i j : Nat} {x y : Fl} (hs : fl.Pairwise (fun x y => x.id < y.id)) (h : Hits fl id i x) (k : Hits fl id j y) : i = j ∧ x = y := by
  obtain ⟨h1, h2⟩ := h
  obtain ⟨k1, k2⟩ := k
  have e : i = j := by
    rcases Nat.lt_trichotomy i j with h' | h' | h'
    · have := pw_lt hs h' h1 k1; omega
    · exact h'
    · have := pw_lt hs h' k1 h1; omega
  subst e
  rw [h1] at k1
  exact ⟨rfl, Option.some.inj k1⟩

theorem net_cells {ρ : Nat → Nat} {w : World} {p : Nat} {N : Net} (R : Rep ρ w p N) : w.cell? ⟨p, 0, none⟩ = some N.vf ∧ w.cell? ⟨p, 1, none⟩ = some N.vh ∧ w.cell? ⟨p, 2, none⟩ = some N.ve ∧ w.cell? ⟨p, 3, none⟩ = some N.vm ∧ w.cell? ⟨p, 4, none⟩ = some (.int .i64 N.next) ∧ ∀ i, w.frozen? ⟨p, i, none⟩ = false := by
  have n := R.net
  refine ⟨?_, ?_, ?_, ?_, ?_, frozen_blk n⟩ <;> rw [cell_of_row _ _ _ _ _ _ n] <;> rfl

theorem index_nil (id : Int) (w : World) : Calls Try.prog 37 #[.pointer none, .int .i64 id] w fun e w' => e = .returned (.tuple #[.int .i64 0, .int .i64 1]) ∧ w = w' := by
  go_enter Try.func37, Try.ntmps37
  go_wp2
  go_ret2
  exact ⟨rfl, rfl⟩

/-- How large a network may get. -/
structure Small (N : Net) : Prop where
  next : N.next ≤ 1000000
  evs : N.evs.length ≤ 1000000
  fl : N.fl.length ≤ 1000000
  hist : N.hist.length ≤ 1000000
  cnt : N.cnt ≤ 1000000

theorem index_hit {ρ : Nat → Nat} {w : World} {p : Nat} {N : Net} (R : Rep ρ w p N) (S : Small N) {id : Int} {i : Nat} {x : Fl} (h : Hits N.fl id i x) :
    Calls Try.prog 37 #[.pointer (some ⟨p, 0, none⟩), .int .i64 id] w fun e w' => e = .returned (.tuple #[.int .i64 i, .int .i64 0]) ∧ Below w.heap.size w w' := by
  obtain ⟨c0, c1, c2, c3, c4, fr⟩ := net_cells R
  have hsm := S.next
  have hidn := R.idn x (List.mem_of_getElem? h.1)
  have hid0 : 0 ≤ id := by have := h.2; omega
  have hid1 : id ≤ 9223372036854775807 := by have := h.2; omega
  have hs := search_any w N.fl N.vf R.f R.ids (fun y hy => by have := R.idn y hy; omega) (by have := S.fl; omega) id (by omega) hid1
  have HU := Lib.hid (fun j y (k : Hits N.fl id j y) => Hits.unique R.ids h k)
  have HH := Lib.hid h
  have HS := Lib.hid hs
  clear R S h c1 c2 c3 c4 fr hsm hidn hs
  go_enter Try.func37, Try.ntmps37
  go_wp2_with fail
  refine HS.out.mono ?_
  rintro e w1 ⟨⟨j, b, rfl, k1, k2⟩, hb⟩
  cases b
  · exact absurd HH.out.2 (k2 hid0 rfl x (List.mem_of_getElem? HH.out.1))
  · obtain ⟨y, y1, y2⟩ := k1 rfl
    obtain ⟨rfl, rfl⟩ := HU.out j y ⟨y1, y2⟩
    clear k1 k2
    go_wp2
    go_ret2
    exact ⟨rfl, hb⟩

theorem index_miss {ρ : Nat → Nat} {w : World} {p : Nat} {N : Net} (R : Rep ρ w p N) (S : Small N) {id : Int} (h : Misses N.fl id) (h1 : -9223372036854775808 ≤ id) (h2 : id ≤ 9223372036854775807) :
    Calls Try.prog 37 #[.pointer (some ⟨p, 0, none⟩), .int .i64 id] w fun e w' => e = .returned (.tuple #[.int .i64 0, .int .i64 9]) ∧ Below w.heap.size w w' := by
  obtain ⟨c0, c1, c2, c3, c4, fr⟩ := net_cells R
  have hsm := S.next
  have hs := search_any w N.fl N.vf R.f R.ids (fun y hy => by have := R.idn y hy; omega) (by have := S.fl; omega) id h1 h2
  have HH := Lib.hid h
  have HS := Lib.hid hs
  clear R S h c1 c2 c3 c4 fr hsm hs
  go_enter Try.func37, Try.ntmps37
  go_wp2_with fail
  refine HS.out.mono ?_
  rintro e w1 ⟨⟨j, b, rfl, k1, k2⟩, hb⟩
  cases b
  · clear k1 k2
    go_wp2
    go_ret2
    exact ⟨rfl, hb⟩
  · obtain ⟨y, y1, y2⟩ := k1 rfl
    exact absurd y2 (HH.out y (List.mem_of_getElem? y1))
end Go.Proofs.Ytiindnmelegkgaa
end
