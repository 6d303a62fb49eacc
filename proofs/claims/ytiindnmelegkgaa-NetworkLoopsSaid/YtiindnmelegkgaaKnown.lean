/- known: the examples of the chapter. -/
import Derived.Test.YtiindnmelegkgaaAbsM
import Derived.RangeFuncFrom
import Derived.RangeFuncWrites
namespace Go.Proofs.Ytiindnmelegkgaa
open Go.RowKit Go.Shelf
set_option linter.unusedSimpArgs false
set_option linter.unusedVariables false
attribute [local go_sem] Oper.semAt_some

def sa : ByteArray := { data := #[97] }
def sb : ByteArray := { data := #[98] }
def sc : ByteArray := { data := #[99] }
def P0 (b : Nat) : Pk := ⟨{ data := #[97] }, { data := #[98] }, .slice (some ⟨b, 0, none⟩) 2 2, [1, 2]⟩

def f0 : AFl := ⟨{ data := #[97] }, { data := #[98] }, [1, 2], 0, 0⟩
def f1 : AFl := ⟨{ data := #[97] }, { data := #[98] }, [1, 2], 1, 0⟩
def f1' : AFl := ⟨{ data := #[97] }, { data := #[98] }, [1, 253], 1, 0⟩
def f2 : AFl := ⟨{ data := #[97] }, { data := #[98] }, [1, 2], 2, 0⟩
def f2' : AFl := ⟨{ data := #[97] }, { data := #[99] }, [1, 2], 2, 0⟩
def h0 : APk := ⟨{ data := #[97] }, { data := #[98] }, [1, 2]⟩
def S1 : Abs := ⟨[f0], [h0], [⟨1, 0, -1⟩], fun _ _ => false, 0, 1⟩
def S2 : Abs := ⟨[f0, f1], [h0], [⟨1, 0, -1⟩, ⟨4, 1, 0⟩], fun _ _ => false, 0, 2⟩
def S3 : Abs := ⟨[f0, f1'], [h0], [⟨1, 0, -1⟩, ⟨4, 1, 0⟩, ⟨5, 1, -1⟩], fun _ _ => false, 0, 2⟩
def S4 : Abs := ⟨[f0, f1', f2], [h0], [⟨1, 0, -1⟩, ⟨4, 1, 0⟩, ⟨5, 1, -1⟩, ⟨7, 2, 0⟩], fun _ _ => false, 0, 3⟩
def S5 : Abs := ⟨[f0, f2], [h0], [⟨1, 0, -1⟩, ⟨4, 1, 0⟩, ⟨5, 1, -1⟩, ⟨7, 2, 0⟩, ⟨2, 1, -1⟩], fun _ _ => false, 0, 3⟩
def S6 : Abs := ⟨[f0, f2'], [h0], [⟨1, 0, -1⟩, ⟨4, 1, 0⟩, ⟨5, 1, -1⟩, ⟨7, 2, 0⟩, ⟨2, 1, -1⟩, ⟨6, 2, -1⟩], fun _ _ => false, 0, 3⟩
open Classical in
noncomputable def bl7 : ByteArray → ByteArray → Bool := fun f t => decide (f = ({ data := #[97] } : ByteArray) ∧ t = ({ data := #[98] } : ByteArray))
noncomputable def S7 : Abs := ⟨[f0, f2'], [h0], [⟨1, 0, -1⟩, ⟨4, 1, 0⟩, ⟨5, 1, -1⟩, ⟨7, 2, 0⟩, ⟨2, 1, -1⟩, ⟨6, 2, -1⟩], bl7, 1, 3⟩
section
variable {w0 w : World} {p : Nat} {kept : List (Nat × Obj)}
theorem s1 (h : KS w0 p S1 kept w) : Calls Try.prog 15 #[.pointer (some ⟨p, 0, none⟩), .int .i64 0] w fun e w' => e = .returned (.tuple #[.int .i64 1, .int .i64 0]) ∧ KS w0 p S2 kept w' :=
  h.dup ⟨by decide, by decide, by decide, by decide, by decide⟩ (id := 0) (i := 0) (x := f0) ⟨rfl, rfl⟩ (by decide)
theorem s2 (h : KS w0 p S2 kept w) : Calls Try.prog 19 #[.pointer (some ⟨p, 0, none⟩), .int .i64 1, .int .i64 1, .int .u8 255] w fun e w' => e = .returned (.int .i64 0) ∧ KS w0 p S3 kept w' := by
  have := h.alter ⟨by decide, by decide, by decide, by decide, by decide⟩ (id := 1) (i := 1) (x := f1) ⟨rfl, rfl⟩ 1 255 2 rfl rfl
  rw [show bits BinOp.xor IntKind.u8 2 255 = 253 by decide] at this
  exact this
theorem s3a (h : KS w0 p S3 kept w) : Calls Try.prog 16 #[.pointer (some ⟨p, 0, none⟩), .int .i64 0] w fun e w' => e = .returned (.tuple #[.bool true, .int .i64 0]) ∧ KS w0 p S3 kept w' := by
  have := h.genuine ⟨by decide, by decide, by decide, by decide, by decide⟩ (id := 0) (i := 0) (x := f0) ⟨rfl, rfl⟩ 0 rfl (q := h0) rfl
  rw [show sameA f0 h0 = true by simp [sameA, f0, h0]] at this
  exact this
theorem s3b (h : KS w0 p S3 kept w) : Calls Try.prog 16 #[.pointer (some ⟨p, 0, none⟩), .int .i64 1] w fun e w' => e = .returned (.tuple #[.bool false, .int .i64 0]) ∧ KS w0 p S3 kept w' := by
  have := h.genuine ⟨by decide, by decide, by decide, by decide, by decide⟩ (id := 1) (i := 1) (x := f1') ⟨rfl, rfl⟩ 0 rfl (q := h0) rfl
  rw [show sameA f1' h0 = false by simp [sameA, f1', h0]] at this
  exact this
theorem s3c (h : KS w0 p S3 kept w) : Calls Try.prog 14 #[.pointer (some ⟨p, 0, none⟩), .int .i64 0] w fun e w' => e = .returned (.tuple #[.int .i64 2, .int .i64 0]) ∧ KS w0 p S4 kept w' :=
  h.replay ⟨by decide, by decide, by decide, by decide, by decide⟩ 0 (q := h0) rfl (by decide)
theorem s4 (h : KS w0 p S4 kept w) : Calls Try.prog 11 #[.pointer (some ⟨p, 0, none⟩), .int .i64 1] w fun e w' => ∃ q : Pk, e = .returned (.tuple #[q.val, .int .i64 0]) ∧ q.abs = ⟨{ data := #[97] }, { data := #[98] }, [1, 253]⟩ ∧ KSq w0 p S5 kept q w' :=
  h.deliver ⟨by decide, by decide, by decide, by decide, by decide⟩ (id := 1) (i := 1) (x := f1') ⟨rfl, rfl⟩ rfl
theorem s5a (h : KS w0 p S5 kept w) : Calls Try.prog 11 #[.pointer (some ⟨p, 0, none⟩), .int .i64 1] w fun e w' => e = .returned (.tuple #[zeroPk, .int .i64 9]) ∧ KS w0 p S5 kept w' :=
  h.miss ⟨by decide, by decide, by decide, by decide, by decide⟩ (id := 1) (fun x hx => by simp [S5] at hx; rcases hx with rfl | rfl <;> decide) (by decide) (by decide)
theorem s5b (h : KS w0 p S5 kept w) : Calls Try.prog 20 #[.pointer (some ⟨p, 0, none⟩), .int .i64 2, .string { data := #[99] }] w fun e w' => e = .returned (.int .i64 0) ∧ KS w0 p S6 kept w' :=
  h.redirect ⟨by decide, by decide, by decide, by decide, by decide⟩ (id := 2) (i := 1) (x := f2) ⟨rfl, rfl⟩ _ (by simp [hostB, ByteArray.size])
theorem s6a (h : KS w0 p S6 kept w) : Calls Try.prog 25 #[.pointer (some ⟨p, 0, none⟩), .int .i64 2] w fun e w' => e = .returned (.tuple #[.int .i64 0, .int .i64 0]) ∧ KS w0 p S6 kept w' :=
  h.source ⟨by decide, by decide, by decide, by decide, by decide⟩ (id := 2) (i := 1) (x := f2') ⟨rfl, rfl⟩
theorem s6b (h : KS w0 p S6 kept w) : Calls Try.prog 16 #[.pointer (some ⟨p, 0, none⟩), .int .i64 2] w fun e w' => e = .returned (.tuple #[.bool false, .int .i64 0]) ∧ KS w0 p S6 kept w' := by
  have := h.genuine ⟨by decide, by decide, by decide, by decide, by decide⟩ (id := 2) (i := 1) (x := f2') ⟨rfl, rfl⟩ 0 rfl (q := h0) rfl
  rw [show sameA f2' h0 = false by simp [sameA, f2', h0]] at this
  exact this
theorem s6c (h : KS w0 p S6 kept w) : Calls Try.prog 21 #[.pointer (some ⟨p, 0, none⟩), .string { data := #[97] }, .string { data := #[98] }] w fun e w' => e = .returned (.int .i64 0) ∧ KS w0 p S7 kept w' :=
  h.block ⟨by decide, by decide, by decide, by decide, by decide⟩ _ _ (by simp [hostB, ByteArray.size]) (by simp [hostB, ByteArray.size]) bl7 (fun f' t' => by simp [bl7, S6])
theorem tiny7 : Tiny S7 := ⟨by show 3 ≤ 1000000; decide, by show 6 ≤ 1000000; decide, by show 2 ≤ 1000000; decide, by show 1 ≤ 1000000; decide, by show 1 ≤ 1000000; decide⟩
theorem s7a (h : KS w0 p S7 kept w) : Calls Try.prog 11 #[.pointer (some ⟨p, 0, none⟩), .int .i64 0] w fun e w' => e = .returned (.tuple #[zeroPk, .int .i64 8]) ∧ KS w0 p S7 kept w' :=
  h.stuck tiny7 (id := 0) (i := 0) (x := f0) ⟨rfl, rfl⟩ (by simp [S7, bl7, f0])
theorem s7b (h : KS w0 p S7 kept w) : Calls Try.prog 23 #[.pointer (some ⟨p, 0, none⟩)] w fun e w' => EvSeq w w' S7.evs e ∧ KS w0 p S7 kept w' := h.events tiny7
theorem s7c (h : KS w0 p S7 kept w) : Calls Try.prog 19 #[.pointer (some ⟨p, 0, none⟩), .int .i64 0, .int .i64 2, .int .u8 1] w fun e w' => e = .returned (.int .i64 3) ∧ KS w0 p S7 kept w' ∧ Below w.heap.size w w' :=
  h.range tiny7 (id := 0) (i := 0) (x := f0) ⟨rfl, rfl⟩ 2 1 rfl (.inr (by decide))
end

theorem rd2 {w : World} {b : Nat} {x y : Int} (h : w.heap[b]? = some (.cells #[.int .u8 x, .int .u8 y] 5 (0, 0))) : rdB w (.slice (some ⟨b, 0, none⟩) 2 2) [x, y] := by
  refine ⟨by simp, .inr (.inl ⟨b, 0, 2, rfl, (Array.getElem?_eq_some_iff.1 h).1, fun j u hu => ?_⟩)⟩
  rw [cell_of_row _ _ _ _ _ _ h, Nat.zero_add]
  match j with
  | 0 => simpa using hu
  | 1 => simpa using hu
  | j + 2 => simp at hu

theorem eqlFn (B : Nat) (w : World) : (binOp .eql 55 (.func (.func 61) #[] #[.pointer (some ⟨B, 0, none⟩)]) .nilFunc).run Try.prog w = .ok (.bool false) w := by kernel_rfl

/-- As KS, all of it below n. -/
def KSn (w0 : World) (p : Nat) (A : Abs) (kept : List (Nat × Obj)) (n : Nat) (w : World) : Prop :=
  ∃ ρ N, Rep ρ w p N ∧ N.abs = A ∧ (∀ x ∈ kept, w.heap[x.1]? = some x.2 ∧ ρ x.1 = 0 ∧ x.1 < n) ∧ (∀ b, b < w0.heap.size → ρ b = 0) ∧ Below w0.heap.size w0 w ∧ (∀ b, n ≤ b → ρ b = 0) ∧ n ≤ w.heap.size ∧ w0.heap.size ≤ n
theorem KS.n {w0 w : World} {p : Nat} {A : Abs} {kept : List (Nat × Obj)} (h : KS w0 p A kept w) : KSn w0 p A kept w.heap.size w := by
  obtain ⟨ρ, N, R, hA, hk, h0, hb0⟩ := h
  exact ⟨ρ, N, R, hA, fun x hx => ⟨(hk x hx).1, (hk x hx).2, (Array.getElem?_eq_some_iff.1 (hk x hx).1).1⟩, h0, hb0, R.far, Nat.le_refl _, hb0.size⟩
theorem KSn.ks {w0 w : World} {p n : Nat} {A : Abs} {kept : List (Nat × Obj)} (h : KSn w0 p A kept n w) : KS w0 p A kept w := by
  obtain ⟨ρ, N, R, hA, hk, h0, hb0, _⟩ := h
  exact ⟨ρ, N, R, hA, fun x hx => ⟨(hk x hx).1, (hk x hx).2.1⟩, h0, hb0⟩
theorem KSn.grown {w0 w w' : World} {p n : Nat} {A : Abs} {kept : List (Nat × Obj)} {row : Option Nat} (h : KSn w0 p A kept n w) (hg : w.grownBy w' row) (hr : ∀ r, row = some r → n ≤ r) : KSn w0 p A kept n w' := by
  obtain ⟨ρ, N, R, hA, hk, h0, hb0, hf, hn, hw0⟩ := h
  have old : ∀ b, b < n → w'.heap[b]? = w.heap[b]? := fun b hb => hg.block b (by omega) (fun e => by have := hr b e.symm; omega)
  refine ⟨ρ, N, R.stays hg.size fun b hb => old b ?_, hA, fun x hx => ⟨(old _ (hk x hx).2.2).trans (hk x hx).1, (hk x hx).2⟩, h0, hb0.trans ⟨hg.os, hg.tape, hg.output, hg.size, fun b hb => old b (by omega)⟩, hf, Nat.le_trans hn hg.size, hw0⟩
  rcases Nat.lt_or_ge b n with h | h
  · exact h
  · exact absurd (hf b h) hb
theorem KSn.put {w0 w : World} {p n B : Nat} {A : Abs} {kept : List (Nat × Obj)} {cs : Array Value} {t : TypeId} (h : KSn w0 p A ((B, .cells cs t (0, 0)) :: kept) n w) (hB : w0.heap.size ≤ B) (hne : ∀ x ∈ kept, x.1 ≠ B) (i : Nat) (v : Value) :
    KSn w0 p A ((B, .cells (cs.setIfInBounds i v) t (0, 0)) :: kept) n (w.setCell ⟨B, i, none⟩ v) := by
  obtain ⟨ρ, N, R, hA, hk, h0, hb0, hf, hn, hw0⟩ := h
  have hkB := hk (B, .cells cs t (0, 0)) (List.mem_cons_self ..)
  refine ⟨ρ, N, R.stays (by rw [set_size]; exact Nat.le_refl _) (fun b hb => set_other (fun e => hb (by rw [e]; exact hkB.2.1))), hA, fun x hx => ?_, h0, hb0.setCell (p := ⟨B, i, none⟩) hB v, hf, by rw [set_size]; exact hn, hw0⟩
  rcases List.mem_cons.1 hx with rfl | hx
  · exact ⟨set_at hkB.1, hkB.2⟩
  · exact ⟨(set_other (hne x hx)).trans (hk x (List.mem_cons_of_mem _ hx)).1, (hk x (List.mem_cons_of_mem _ hx)).2⟩

theorem range_ev {body : Code} {g : Operand} {p1 p2 : Tmp} {Q : Exit → Act → World → Prop} {a : Act} {w : World} {B : Nat} {v : Value} {evs : List Ev} (hg : a.eval g = .func (.func 61) #[] #[.pointer (some ⟨B, 0, none⟩)]) (hreach : evs.length ≤ 1000000)
    (hBs : w.heap[B]? = some (.cells #[v] 26 (0, 0))) (hI0 : w.ownsRow 0 59 3 v evs.length (evs.flatMap Ev.cells)) 
    (I : List (Nat × Ev) → World → Prop) (hI : OwnFrom w.heap.size I) (h0 : I [] w)
    (hbody : ∀ (l : Nat) (pre : List (Nat × Ev)) (x : Nat × Ev) (W : World), I pre W → pre.length < evs.length →
      body.wpIn (Fence.wide.inRound l) (3 - 1 - 1) Try.prog (ownPostK (KpR v.ownBlock) I (fun _ _ _ => False) (pre ++ [x]) W) { tmps := (#[p1, p2].zip (encE x)).foldl (fun t (p, v) => t.setIfInBounds p v) a.tmps, defers := [] } W)
    (hdone : ∀ (D : Nat) (W : World), w.heap.size ≤ D → I (upE evs evs.length) W → W.heap[D]? = some (.deferred (some [])) → Q .normal { a with defers := { target := .collected D, args := #[] } :: a.defers } W) :
    (Code.rangeFunc g #[p1, p2] .skip body).wpIn Fence.wide 3 Try.prog Q a w :=
  wpIn_rangeFunc_ownF (F := Fence.wide) (n := 3) rfl (by decide) (gf := 61) (lb := #[.pointer (some ⟨B, 0, none⟩)]) hg trivial (enters_of Try.func61 (by kernel_rfl) rfl)
    (all61_stops Fence.wide 2 trivial rfl (by decide) B v evs hreach w hBs hI0) KpR.trans (KpR.put fun k e => (hI0.lt k e).2) (Below.refl _ _) (fun _ => rfl)
    I (fun _ _ _ => False) hI (fun _ _ _ _ _ hs _ _ => hs) h0
    (fun x => { tmps := (#[p1, p2].zip (encE x)).foldl (fun t (p, v) => t.setIfInBounds p v) a.tmps, defers := [] })
    (fun l x W K hK => wpIn_skip hK) hbody (fun D xs W hD hxs hI hK => by subst hxs; exact hdone D W hD hI hK) (fun D c pre W _ _ h _ => h.elim)
theorem two_boxes {w0 w : World} {p : Nat} {A : Abs} {kept : List (Nat × Obj)} (h : KS w0 p A kept w) (o1 o2 : Obj) : ∃ KT, KS w0 p A ((w.heap.size + 1, o2) :: KT) ((w.alloc o1).alloc o2) ∧ (∀ x ∈ KT, x.1 ≠ w.heap.size + 1) ∧ w0.heap.size ≤ w.heap.size := by
  refine ⟨(w.heap.size, o1) :: kept, ?_, fun x hx => ?_, h.below.size⟩
  · have := (h.box o1).box o2
    simpa only [World.size_alloc] using this
  · rcases List.mem_cons.1 hx with rfl | hx
    · simp
    · have := (Array.getElem?_eq_some_iff.1 (h.kept hx)).1
      omega
theorem rdcur {w : World} {g cap : Nat} {cur : Array Value} {bs : List Int} (h : w.heap[g]? = some (.cells cur 5 (0, 0))) (hl : bs.length ≤ 1099511627776) (hc : cur.toList.take (bs.length * 1) = bs.map (Value.int .u8)) : rdB w (.slice (some ⟨g, 0, none⟩) bs.length cap) bs := by
  refine ⟨hl, .inr (.inl ⟨g, 0, cap, rfl, (Array.getElem?_eq_some_iff.1 h).1, fun j u hu => ?_⟩)⟩
  rw [cell_of_row _ _ _ _ _ _ h, Nat.zero_add]
  rw [← hc, List.getElem?_take] at hu
  split at hu
  · simpa using hu
  · cases hu

set_option maxRecDepth 100000 in
set_option maxHeartbeats 4000000 in
theorem known_any (w : World) : Calls Try.prog 9 #[] w fun e w' => e = .returned (.bool true) ∧ Below w.heap.size w w' := by
  refine (callsIn_wide (n := 3)).1 ?_
  refine callsIn_of_wp_marks Try.func9 rfl trivial ?_ rfl
  simp only [Try.ntmps9, List.size_toArray, List.length_cons, List.length_nil, Nat.reduceAdd, Nat.reduceSub, Array.replicate_succ, Array.replicate_zero, List.push_toArray, List.append_toArray, List.nil_append, List.cons_append]
  refine wpIn_wide.2 ?_
  have k1 := ((KS.new w).box (.cells #[.int .u8 1, .int .u8 2] 5)).box (.cells #[.string { data := #[97] }, .string { data := #[98] }, .slice (some ⟨w.heap.size + 1, 0, none⟩) 2 2] 35)
  simp only [World.size_alloc] at k1
  have hr1 : rdB _ (P0 (w.heap.size + 1)).bv (P0 (w.heap.size + 1)).bs := rd2 (k1.kept (x := (w.heap.size + 1, .cells #[.int .u8 1, .int .u8 2] 5)) (by simp))
  obtain ⟨W2, k2, c1⟩ := k1.send ⟨by decide, by decide, by decide, by decide, by decide⟩ (P0 (w.heap.size + 1)) hr1 (fun b hb => by
    right
    obtain rfl : w.heap.size + 1 = b := by simpa [P0, Value.ownBlock] using hb
    exact ⟨_, List.mem_cons_of_mem _ (List.mem_cons_self ..), rfl⟩) (by simp [validB, hostB, P0, ByteArray.size]) (by decide) (by decide)
  have C1 := Lib.hid c1
  have K2 := Lib.hid k2
  unfold P0 Pk.val A0 zeroNet at C1
  dsimp only at C1
  clear c1 k2 k1 hr1
  go_wp2_with fail
  refine C1.out.mono ?_
  rintro e w1 ⟨rfl, rfl⟩
  go_wp2_with fail
  have k2 : KS w w.heap.size S1 _ W2 := K2.out
  clear K2 C1
  refine (s1 k2).mono ?_
  clear k2
  rintro e w2 ⟨rfl, k3⟩
  go_wp2_with fail
  refine (s2 k3).mono ?_
  clear k3
  rintro e w3 ⟨rfl, k4⟩
  go_wp2_with fail
  refine (s3a k4).mono ?_
  clear k4
  rintro e w4 ⟨rfl, k5⟩
  go_wp2_with fail
  refine (s3b k5).mono ?_
  clear k5
  rintro e w5 ⟨rfl, k6⟩
  go_wp2_with fail
  refine (s3c k6).mono ?_
  clear k6
  rintro e w6 ⟨rfl, k7⟩
  go_wp2_with fail
  refine (s4 k7).mono ?_
  clear k7
  rintro e w7 ⟨q, rfl, hq, kq⟩
  obtain ⟨qf, qt, qb, qbs⟩ := q
  simp only [Pk.abs, APk.mk.injEq] at hq
  obtain ⟨rfl, rfl, rfl⟩ := hq
  rcases kq.keep with ⟨_, h⟩ | ⟨g, cap, cur, hbv, k8, hc1, hc2, hc3, hc4⟩
  · simp at h
  dsimp only at hbv hc1 hc4
  subst hbv
  clear kq
  have HC := Lib.hid hc4
  have HC3 := Lib.hid hc3
  clear hc4 hc3 hc1 hc2
  have k9 := k8.box (.cells #[.string { data := #[97] }, .string { data := #[98] }, .slice (some ⟨g, 0, none⟩) 2 cap] 35)
  clear k8
  unfold Pk.val
  dsimp only [List.length_cons, List.length_nil]
  go_wp2_with fail
  refine (s5a k9).mono ?_
  clear k9
  rintro e w8 ⟨rfl, k10⟩
  go_wp2_with fail
  refine (s5b k10).mono ?_
  clear k10
  rintro e w9 ⟨rfl, k11⟩
  go_wp2_with fail
  refine (s6a k11).mono ?_
  clear k11
  rintro e w10 ⟨rfl, k12⟩
  go_wp2_with fail
  refine (s6b k12).mono ?_
  clear k12
  rintro e w11 ⟨rfl, k13⟩
  have x0 := k13.kept (List.mem_cons_self ..)
  dsimp only at x0
  have m0 : w11.cell? ⟨w7.heap.size, 0, none⟩ = some (.string { data := #[97] }) := by rw [cell_of_row _ _ _ _ _ _ x0]; rfl
  have m1 : w11.cell? ⟨w7.heap.size, 1, none⟩ = some (.string { data := #[98] }) := by rw [cell_of_row _ _ _ _ _ _ x0]; rfl
  have m2 : w11.cell? ⟨w7.heap.size, 2, none⟩ = some (.slice (some ⟨g, 0, none⟩) 2 cap) := by rw [cell_of_row _ _ _ _ _ _ x0]; rfl
  clear x0
  have k14 := k13.box (.cells #[.int .u8 1, .int .u8 253] 5)
  have y0 := k14.kept (x := (g, .cells cur 5 (0, 0))) (by simp)
  have y1 := k14.kept (x := (w11.heap.size, .cells #[.int .u8 1, .int .u8 253] 5)) (by simp)
  have rs := rsame_any ⟨{ data := #[97] }, { data := #[98] }, .slice (some ⟨g, 0, none⟩) 2 cap, [1, 253]⟩ ⟨{ data := #[97] }, { data := #[98] }, .slice (some ⟨w11.heap.size, 0, none⟩) 2 2, [1, 253]⟩ _ (rdcur (bs := [1, 253]) y0 (by simp) HC.out) (rd2 y1)
  have RS := Lib.hid rs
  have K14 := Lib.hid k14
  clear rs k13 k14 y0 y1
  unfold Pk.val at RS
  dsimp only at RS
  go_wp2_with fail
  refine RS.out.mono ?_
  rintro e w12 ⟨rfl, hb12⟩
  have k15 := K14.out.stays hb12
  clear K14 RS hb12 m0 m1 m2 HC HC3
  rw [show sameS ⟨{ data := #[97] }, { data := #[98] }, .slice (some ⟨g, 0, none⟩) 2 cap, [1, 253]⟩ ⟨{ data := #[97] }, { data := #[98] }, .slice (some ⟨w11.heap.size, 0, none⟩) 2 2, [1, 253]⟩ = true by simp [sameS]]
  go_wp2_with fail
  refine (s6c k15).mono ?_
  clear k15
  rintro e w13 ⟨rfl, k16⟩
  go_wp2_with fail
  refine (s7a k16).mono ?_
  clear k16
  rintro e w14 ⟨rfl, k17⟩
  unfold zeroPk
  obtain ⟨KT, k18, hKT, hw14⟩ := two_boxes k17 (.cells #[.string { data := #[] }, .string { data := #[] }, .slice none 0 0] 35) (.cells #[.int .i64 0] 3)
  clear k17
  go_wp2_with fail
  refine (s7b k18).mono ?_
  clear k18
  rintro e w15 ⟨hev, k19⟩
  obtain ⟨⟨B, v, rfl, hB1, hB2, hB3, hB4⟩, hB5⟩ := hev
  have qf := eqlFn
  go_wp2_with fail
  have hz15 : w14.heap.size + 1 < w15.heap.size := by have := hB5.size; simp at this; omega
  obtain ⟨C, hC⟩ : ∃ C, w14.heap.size + 1 = C := ⟨_, rfl⟩
  have kn := k19.n
  simp only [World.size_alloc, hC] at kn ⊢
  clear k19 hB5 qf
  refine (wpIn_wide (n := 3)).1 ?_
  have HV : Hid (∀ b, v.ownBlock = some b → C < b) := Lib.hid fun b hb => by have := hB4 b hb; simp at this; omega
  have hCw : w.heap.size ≤ C := by omega
  rw [hC] at hKT
  refine range_ev rfl (by show 6 ≤ 1000000; decide) hB2 hB3 (fun (pre : List (Nat × Ev)) (W : World) => KSn w w.heap.size S7 ((C, .cells #[.int .i64 (pre.length : Int)] 3) :: KT) w15.heap.size W)
    (fun s A B' row hs hg hr => hs.grown hg (fun r e => (hr r e).1)) kn ?body ?done
  case body =>
    rintro l pre x W hI hlen
    have xc := hI.ks.kept (List.mem_cons_self ..)
    dsimp only at xc
    have m0 : W.cell? ⟨C, 0, none⟩ = some (.int .i64 (pre.length : Int)) := by rw [cell_of_row _ _ _ _ _ _ xc]; rfl
    have g0 := frozen_blk xc 0
    have hl6 : pre.length < 6 := hlen
    have hb1 : (-9223372036854775808 : Int) ≤ (pre.length : Int) + 1 := by omega
    have hb2 : (pre.length : Int) + 1 ≤ 9223372036854775807 := by omega
    have NX := Lib.hid (hI.put hCw hKT 0 (.int .i64 ((pre.length : Int) + 1)))
    have HK := Lib.hid (Nat.le_of_lt hz15)
    clear xc hI hlen hl6 kn
    simp only [encE, List.zip_toArray, List.zip_cons_cons, List.zip_nil_right, List.foldl_toArray, List.foldl_cons, List.foldl_nil, List.setIfInBounds_toArray, List.set_cons_succ, List.set_cons_zero]
    gi_wp2
    exact ⟨KeepsOthers.setCell _ _ _, ⟨by rw [set_size]; exact Nat.le_refl _, fun k e => set_other (show k ≠ C by have := HV.out k e; omega)⟩, by simpa using NX.out⟩
  case done =>
    rintro D W hD hI hK
    have hI' : KS w w.heap.size S7 ((C, .cells #[.int .i64 6] 3) :: KT) W := hI.ks
    have xc := hI'.kept (List.mem_cons_self ..)
    dsimp only at xc
    clear hI kn
    dsimp only
    go_wp2_with fail
    refine (s7c hI').mono ?_
    rintro e w16 ⟨rfl, k20, hb16⟩
    have hDl := (Array.getElem?_eq_some_iff.1 hK).1
    have hK2 := (hb16.block D hDl).trans hK
    have xc2 := k20.kept (List.mem_cons_self ..)
    dsimp only at xc2
    have m0 : w16.cell? ⟨C, 0, none⟩ = some (.int .i64 6) := by rw [cell_of_row _ _ _ _ _ _ xc2]; rfl
    go_wp2_with fail
    refine (alter_zero _ _ _ _).mono ?_
    rintro e w17 ⟨rfl, rfl⟩
    go_wp2_with fail
    refine ⟨by simp, .inl ⟨_, _, rfl, run_takeDeferred hK2, ?_⟩⟩
    exact ⟨_, results_tmp rfl _ _ _, rfl, k20.below.trans (belowK_b (w := w) (Nat.le_refl _) w16 D _ _ (by omega) hK2 rfl rfl)⟩
end Go.Proofs.Ytiindnmelegkgaa
