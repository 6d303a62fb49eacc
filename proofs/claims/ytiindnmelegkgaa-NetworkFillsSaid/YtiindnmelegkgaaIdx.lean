/- index, over a network in memory. -/
import Derived.Test.YtiindnmelegkgaaIndex
namespace Go.Proofs.Ytiindnmelegkgaa
open Go.RowKit
set_option linter.unusedSimpArgs false
set_option linter.unusedVariables false

def Hits (fl : List Fl) (id : Int) (i : Nat) (x : Fl) : Prop := fl[i]? = some x ∧ (x.id : Int) = id
def Misses (fl : List Fl) (id : Int) : Prop := ∀ x ∈ fl, (x.id : Int) ≠ id
theorem hits_or (fl : List Fl) (id : Int) : (∃ i x, Hits fl id i x) ∨ Misses fl id := by
  by_cases h : ∃ x ∈ fl, (x.id : Int) = id
  · obtain ⟨x, hx, e⟩ := h
    obtain ⟨i, hi⟩ := List.mem_iff_getElem?.1 hx
    exact .inl ⟨i, x, hi, e⟩
  · exact .inr fun x hx e => h ⟨x, hx, e⟩
theorem Hits.unique {fl : List Fl} {id : Int} {i j : Nat} {x y : Fl} (hs : fl.Pairwise (fun x y => x.id < y.id)) (h : Hits fl id i x) (k : Hits fl id j y) : i = j ∧ x = y := by
  obtain ⟨h1, h2⟩ := h
  obtain ⟨k1, k2⟩ := k
  have e : i = j := by
    rcases Nat.lt_trichotomy i j with h' | h' | h'
    · have := pw_lt hs h' h1 k1; omega
    · exact h'
    · have := pw_lt hs h' k1 h1; omega
  subst e
  rw [h1] at k1
  exact ⟨rfl, Option.some.inj k1⟩

theorem net_cells {ρ : Nat → Nat} {w : World} {p : Nat} {N : Net} (R : Rep ρ w p N) : w.cell? ⟨p, 0, none⟩ = some N.vf ∧ w.cell? ⟨p, 1, none⟩ = some N.vh ∧ w.cell? ⟨p, 2, none⟩ = some N.ve ∧ w.cell? ⟨p, 3, none⟩ = some N.vm ∧ w.cell? ⟨p, 4, none⟩ = some (.int .i64 N.next) ∧ ∀ i, w.frozen? ⟨p, i, none⟩ = false := by
  have n := R.net
  refine ⟨?_, ?_, ?_, ?_, ?_, frozen_blk n⟩ <;> rw [cell_of_row _ _ _ _ _ _ n] <;> rfl

theorem index_nil (id : Int) (w : World) : Calls Try.prog 37 #[.pointer none, .int .i64 id] w fun e w' => e = .returned (.tuple #[.int .i64 0, .int .i64 1]) ∧ w = w' := by
  go_enter Try.func37, Try.ntmps37
  go_wp2
  go_ret2
  exact ⟨rfl, rfl⟩

/-- How large a network may get. -/
structure Small (N : Net) : Prop where
  next : N.next ≤ 1000000
  evs : N.evs.length ≤ 1000000
  fl : N.fl.length ≤ 1000000
  hist : N.hist.length ≤ 1000000
  cnt : N.cnt ≤ 1000000

theorem index_hit {ρ : Nat → Nat} {w : World} {p : Nat} {N : Net} (R : Rep ρ w p N) (S : Small N) {id : Int} {i : Nat} {x : Fl} (h : Hits N.fl id i x) :
    Calls Try.prog 37 #[.pointer (some ⟨p, 0, none⟩), .int .i64 id] w fun e w' => e = .returned (.tuple #[.int .i64 i, .int .i64 0]) ∧ Below w.heap.size w w' := by
  obtain ⟨c0, c1, c2, c3, c4, fr⟩ := net_cells R
  have hsm := S.next
  have hidn := R.idn x (List.mem_of_getElem? h.1)
  have hid0 : 0 ≤ id := by have := h.2; omega
  have hid1 : id ≤ 9223372036854775807 := by have := h.2; omega
  have hs := search_any w N.fl N.vf R.f R.ids (fun y hy => by have := R.idn y hy; omega) (by have := S.fl; omega) id (by omega) hid1
  have HU := Lib.hid (fun j y (k : Hits N.fl id j y) => Hits.unique R.ids h k)
  have HH := Lib.hid h
  have HS := Lib.hid hs
  clear R S h c1 c2 c3 c4 fr hsm hidn hs
  go_enter Try.func37, Try.ntmps37
  go_wp2_with fail
  refine HS.out.mono ?_
  rintro e w1 ⟨⟨j, b, rfl, k1, k2⟩, hb⟩
  cases b
  · exact absurd HH.out.2 (k2 hid0 rfl x (List.mem_of_getElem? HH.out.1))
  · obtain ⟨y, y1, y2⟩ := k1 rfl
    obtain ⟨rfl, rfl⟩ := HU.out j y ⟨y1, y2⟩
    clear k1 k2
    go_wp2
    go_ret2
    exact ⟨rfl, hb⟩

theorem index_miss {ρ : Nat → Nat} {w : World} {p : Nat} {N : Net} (R : Rep ρ w p N) (S : Small N) {id : Int} (h : Misses N.fl id) (h1 : -9223372036854775808 ≤ id) (h2 : id ≤ 9223372036854775807) :
    Calls Try.prog 37 #[.pointer (some ⟨p, 0, none⟩), .int .i64 id] w fun e w' => e = .returned (.tuple #[.int .i64 0, .int .i64 9]) ∧ Below w.heap.size w w' := by
  obtain ⟨c0, c1, c2, c3, c4, fr⟩ := net_cells R
  have hsm := S.next
  have hs := search_any w N.fl N.vf R.f R.ids (fun y hy => by have := R.idn y hy; omega) (by have := S.fl; omega) id h1 h2
  have HH := Lib.hid h
  have HS := Lib.hid hs
  clear R S h c1 c2 c3 c4 fr hsm hs
  go_enter Try.func37, Try.ntmps37
  go_wp2_with fail
  refine HS.out.mono ?_
  rintro e w1 ⟨⟨j, b, rfl, k1, k2⟩, hb⟩
  cases b
  · clear k1 k2
    go_wp2
    go_ret2
    exact ⟨rfl, hb⟩
  · obtain ⟨y, y1, y2⟩ := k1 rfl
    exact absurd y2 (HH.out y (List.mem_of_getElem? y1))
end Go.Proofs.Ytiindnmelegkgaa
