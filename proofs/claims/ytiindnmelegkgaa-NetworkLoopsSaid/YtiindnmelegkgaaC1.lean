/- The acts of a law's argument; few. -/
import Derived.Test.YtiindnmelegkgaaRep
import Derived.LoopTactic
namespace Go.Proofs.Ytiindnmelegkgaa
open Go.RowKit
set_option linter.unusedSimpArgs false
set_option linter.unusedVariables false

structure ActA where
  what : Int
  id : Int
  off : Int
  m : Int
  p : Pk
def ActA.cells (x : ActA) : List Value := [.int .i64 x.what, .int .i64 x.id, .int .i64 x.off, .int .u8 x.m, .string x.p.frm, .string x.p.to, x.p.bv]
def I64 (x : Int) : Prop := -9223372036854775808 ≤ x ∧ x ≤ 9223372036854775807
/-- What is known of an act: its numbers are numbers, its bytes can be read. -/
structure ActOk (w : World) (x : ActA) : Prop where
  what : I64 x.what
  id : I64 x.id
  off : I64 x.off
  m : 0 ≤ x.m ∧ x.m ≤ 255
  sl : ∃ a c, x.p.bv = .slice a x.p.bs.length c
  rd : x.p.bs.length ≤ 100 → rdB w x.p.bv x.p.bs
  old : 0 < x.p.bs.length → ∀ b, x.p.bv.ownBlock = some b → b < w.heap.size
  byt : ∀ b ∈ x.p.bs, 0 ≤ b ∧ b ≤ 255
/-- A slice of acts. -/
structure ActsAt (w : World) (v : Value) (l : List ActA) : Prop where
  ok : ∀ x ∈ l, ActOk w x
  at_ : (∃ a c, v = .slice a l.length c) ∧ (l = [] ∨ ∃ b off c, v = .slice (some ⟨b, off, none⟩) l.length c ∧ b < w.heap.size ∧ ∀ i x, l[i]? = some x → ∀ j, j < 7 → w.cell? ⟨b, off + i * 7 + j, none⟩ = x.cells[j]?)
def ActA.few (x : ActA) : Bool := decide (x.p.frm.size ≤ 100) && decide (x.p.to.size ≤ 100) && decide (x.p.bs.length ≤ 100)
def fewA (l : List ActA) (most : Nat) : Bool := decide (l.length ≤ most) && l.all ActA.few
theorem ActOk.below {w w' : World} {x : ActA} (h : ActOk w x) (hb : Below w.heap.size w w') : ActOk w' x := ⟨h.what, h.id, h.off, h.m, h.sl, fun hl => (h.rd hl).below hb, fun h0 b hb' => Nat.lt_of_lt_of_le (h.old h0 b hb') hb.size, h.byt⟩
theorem ActsAt.below {w w' : World} {v : Value} {l : List ActA} (h : ActsAt w v l) (hb : Below w.heap.size w w') : ActsAt w' v l := by
  refine ⟨fun x hx => (h.ok x hx).below hb, h.at_.1, ?_⟩
  rcases h.at_.2 with h | ⟨b, off, c, hv, hlt, hc⟩
  · exact .inl h
  · exact .inr ⟨b, off, c, hv, Nat.lt_of_lt_of_le hlt hb.size, fun i x hx j hj => by rw [World.cell?_of_block (w := w) (hb.block b hlt)]; exact hc i x hx j hj⟩
theorem ActsAt.cell {w : World} {b off n c : Nat} {l : List ActA} (h : ActsAt w (.slice (some ⟨b, off, none⟩) n c) l) {i : Nat} {x : ActA} (hx : l[i]? = some x) : ∀ j, j < 7 → w.cell? ⟨b, off + i * 7 + j, none⟩ = x.cells[j]? := by
  intro j hj
  rcases h.at_.2 with h | ⟨b', off', c', hv, hlt, hc⟩
  · subst h; simp at hx
  · cases hv
    exact hc i x hx j hj
theorem ActsAt.form {w : World} {v : Value} {l : List ActA} (h : ActsAt w v l) (hp : 0 < l.length) : ∃ b off c, v = .slice (some ⟨b, off, none⟩) l.length c := by
  rcases h.at_.2 with h | ⟨b', off', c', hv, hlt, hc⟩
  · subst h; simp at hp
  · exact ⟨b', off', c', hv⟩

theorem few_false {l : List ActA} {most k : Nat} {x : ActA} (hx : l[k]? = some x) (h : x.few = false) : fewA l most = false := by
  unfold fewA
  have : l.all ActA.few = false := by
    rw [List.all_eq_false]
    exact ⟨x, List.mem_of_getElem? hx, by simp [h]⟩
  rw [this, Bool.and_false]
set_option maxHeartbeats 2000000 in
set_option maxRecDepth 100000 in
theorem few_any (w : World) (v : Value) (l : List ActA) (h : ActsAt w v l) (most : Nat) (hm : most ≤ 1000) : Calls Try.prog 12 #[v, .int .i64 most] w fun e w' => e = .returned (.bool (fewA l most)) ∧ w = w' := by
  obtain ⟨sa, sc, hv⟩ := h.at_.1
  obtain ⟨n, hn⟩ : ∃ n, l.length = n := ⟨_, rfl⟩
  rw [hn] at hv
  by_cases hmo : n ≤ most
  rotate_left
  · have hf : fewA l most = false := by simp [fewA, hn, hmo]
    rw [hf]
    subst hv
    clear h hf
    go_enter Try.func12, Try.ntmps12
    go_wp2_with fail
    go_ret
    exact ⟨rfl, rfl⟩
  rcases Nat.eq_zero_or_pos n with h0 | h0
  · subst h0
    have hl : l = [] := List.length_eq_zero_iff.1 hn
    subst hl
    have hf : fewA [] most = true := by simp [fewA]
    rw [hf]
    subst hv
    clear h hf
    go_enter Try.func12, Try.ntmps12
    go_wp2_with fail
    refine wp_loop_rounds 1 ?_
    rw [rounds_succ]
    go_wp2_with fail
    go_ret
    exact ⟨rfl, rfl⟩
  · obtain ⟨b, off, c, hv'⟩ := h.form (by omega)
    rw [hn] at hv'
    rw [hv'] at h
    rw [hv'] at hv
    subst hv'
    have HA := Lib.hid h
    have HN := Lib.hid hn
    have hms : n ≤ 1000 := by omega
    clear h hn hv
    go_enter Try.func12, Try.ntmps12
    go_wp2_with fail
    go_loopw [5] (fun i wr => ∃ k : Nat, i = .int .i64 k ∧ k ≤ n ∧ wr = w ∧ ∀ x ∈ l.take k, x.few = true) (fun i _ => n - (intOf i).toNat)
    case atStart => exact ⟨0, rfl, by omega, rfl, by simp⟩
    case round =>
      obtain ⟨k, rfl, hk, rfl, hI⟩ := hrel
      by_cases hlt : k < n
      · obtain ⟨x, hx⟩ : ∃ x, l[k]? = some x := ⟨l[k]'(by rw [HN.out]; exact hlt), List.getElem?_eq_getElem _⟩
        have cc := HA.out.cell hx
        have c4 := cc 4 (by decide)
        have c5 := cc 5 (by decide)
        have c6 := cc 6 (by decide)
        obtain ⟨ba, bc, hbv⟩ := (HA.out.ok x (List.mem_of_getElem? hx)).sl
        simp [ActA.cells, hbv] at c4 c5 c6
        have HX := Lib.hid hx
        clear cc hx hbv
        have hs : ∀ z : ByteArray, ((z.size : Int) > 100) = ¬ (z.size ≤ 100) := fun z => by rw [eq_iff_iff]; omega
        have hlb : ((x.p.bs.length : Int) > 100) = ¬ (x.p.bs.length ≤ 100) := by rw [eq_iff_iff]; omega
        by_cases q1 : x.p.frm.size ≤ 100
        · by_cases q2 : x.p.to.size ≤ 100
          · by_cases q3 : x.p.bs.length ≤ 100
            · have hfx : x.few = true := by simp [ActA.few, q1, q2, q3]
              have z1 : ¬ (x.p.frm.size : Int) > 100 := by omega
              have z2 : ¬ (x.p.to.size : Int) > 100 := by omega
              have z3 : ¬ (x.p.bs.length : Int) > 100 := by omega
              have HF := Lib.hid hfx
              clear hs hlb q1 q2 q3 hfx
              go_wp2_with fail
              refine ⟨⟨k + 1, rfl, by omega, trivial, fun y hy => ?_⟩, by simp [intOf]; omega⟩
              rw [List.take_add_one, HX.out] at hy
              rcases List.mem_append.1 hy with hy | hy
              · exact hI y hy
              · simp at hy; subst hy; exact HF.out
            · have hff : fewA l most = false := few_false HX.out (by simp [ActA.few, q3])
              have HFF := Lib.hid hff
              have z1 : ¬ (x.p.frm.size : Int) > 100 := by omega
              have z2 : ¬ (x.p.to.size : Int) > 100 := by omega
              have z3 : (x.p.bs.length : Int) > 100 := by omega
              clear hs hlb q1 q2 q3 hff
              go_wp2_with fail
              go_ret
              exact ⟨by rw [HFF.out] <;> rfl, rfl⟩
          · have hff : fewA l most = false := few_false HX.out (by simp [ActA.few, q2])
            have HFF := Lib.hid hff
            have z1 : ¬ (x.p.frm.size : Int) > 100 := by omega
            have z2 : (x.p.to.size : Int) > 100 := by omega
            clear hs hlb q1 q2 hff
            go_wp2_with fail
            go_ret
            exact ⟨by rw [HFF.out] <;> rfl, rfl⟩
        · have hff : fewA l most = false := few_false HX.out (by simp [ActA.few, q1])
          have HFF := Lib.hid hff
          have z1 : (x.p.frm.size : Int) > 100 := by omega
          clear hs hlb q1 hff
          go_wp2_with fail
          go_ret
          exact ⟨by rw [HFF.out] <;> rfl, rfl⟩
      · obtain rfl : k = n := by omega
        have hff : fewA l most = true := by
          rw [List.take_of_length_le (by rw [HN.out]; omega)] at hI
          simp only [fewA, Bool.and_eq_true, decide_eq_true_eq, List.all_eq_true]
          exact ⟨by rw [HN.out]; exact hmo, hI⟩
        have HFF := Lib.hid hff
        clear hff
        go_wp2_with fail
        go_ret
        exact ⟨by rw [HFF.out] <;> rfl, rfl⟩
end Go.Proofs.Ytiindnmelegkgaa
