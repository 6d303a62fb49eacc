/- A network in plain words; the methods over it. -/
import Derived.Test.YtiindnmelegkgaaAll
section
namespace Go.Proofs.Ytiindnmelegkgaa
open Go.RowKit
set_option linter.unusedSimpArgs false
set_option linter.unusedVariables false

structure AFl where
  frm : ByteArray
  to : ByteArray
  bs : List Int
  id : Nat
  src : Int
structure APk where
  frm : ByteArray
  to : ByteArray
  bs : List Int
structure Abs where
  fl : List AFl
  hist : List APk
  evs : List Ev
  bl : ByteArray → ByteArray → Bool
  cnt : Nat
  next : Nat
def Pk.abs (x : Pk) : APk := ⟨x.frm, x.to, x.bs⟩
def Fl.abs (x : Fl) : AFl := ⟨x.p.frm, x.p.to, x.p.bs, x.id, x.src⟩
def Net.abs (N : Net) : Abs := ⟨N.fl.map Fl.abs, N.hist.map Pk.abs, N.evs, N.bl, N.cnt, N.next⟩
structure Tiny (A : Abs) : Prop where
  next : A.next ≤ 1000000
  evs : A.evs.length ≤ 1000000
  fl : A.fl.length ≤ 1000000
  hist : A.hist.length ≤ 1000000
  cnt : A.cnt ≤ 1000000
theorem Tiny.small {N : Net} (h : Tiny N.abs) : Small N := ⟨h.next, h.evs, by simpa [Net.abs] using h.fl, by simpa [Net.abs] using h.hist, h.cnt⟩

/-- A network at p that reads as A, made since the world w0; and boxes that are kept. -/
def KS (w0 : World) (p : Nat) (A : Abs) (kept : List (Nat × Obj)) (w : World) : Prop :=
  ∃ ρ N, Rep ρ w p N ∧ N.abs = A ∧ (∀ x ∈ kept, w.heap[x.1]? = some x.2 ∧ ρ x.1 = 0) ∧ (∀ b, b < w0.heap.size → ρ b = 0) ∧ Below w0.heap.size w0 w
theorem KS.below {w0 w : World} {p : Nat} {A : Abs} {kept : List (Nat × Obj)} (h : KS w0 p A kept w) : Below w0.heap.size w0 w := by
  obtain ⟨_, _, _, _, _, _, h⟩ := h; exact h
theorem KS.next {w0 w w' : World} {p : Nat} {A : Abs} {kept : List (Nat × Obj)} {ρ ρ' : Nat → Nat} {N' : Net} (hk : ∀ x ∈ kept, w.heap[x.1]? = some x.2 ∧ ρ x.1 = 0) (h0 : ∀ b, b < w0.heap.size → ρ b = 0) (hb : Below w0.heap.size w0 w)
    (R' : Rep ρ' w' p N') (hA : N'.abs = A) (S : Step ρ ρ' w w') : KS w0 p A kept w' :=
  ⟨ρ', N', R', hA, fun x hx => ⟨(S.block x.1 (Array.getElem?_eq_some_iff.1 (hk x hx).1).1 (hk x hx).2).trans (hk x hx).1, S.role x.1 (Array.getElem?_eq_some_iff.1 (hk x hx).1).1 (hk x hx).2⟩,
    fun b h => S.role b (Nat.lt_of_lt_of_le h hb.size) (h0 b h), hb.trans (S.below hb.size h0)⟩
theorem KS.stays {w0 w w' : World} {p : Nat} {A : Abs} {kept : List (Nat × Obj)} (h : KS w0 p A kept w) (hb : Below w.heap.size w w') : KS w0 p A kept w' := by
  obtain ⟨ρ, N, R, hA, hk, h0, hb0⟩ := h
  exact KS.next hk h0 hb0 (R.below hb) hA (Below.step hb)
theorem KS.drew {w0 w : World} {p : Nat} {A : Abs} {kept : List (Nat × Obj)} (h : KS w0 p A kept w) : KS w0 p A kept w.drew := h.stays (Below.refl _ _).drew
/-- A box is laid. -/
theorem KS.box {w0 w : World} {p : Nat} {A : Abs} {kept : List (Nat × Obj)} (h : KS w0 p A kept w) (o : Obj) : KS w0 p A ((w.heap.size, o) :: kept) (w.alloc o) := by
  have h' := h.stays ((Below.refl _ _).alloc (Nat.le_refl _) o)
  obtain ⟨ρ, N, R, hA, hk, h0, hb0⟩ := h
  refine ⟨ρ, N, R.below ((Below.refl _ _).alloc (Nat.le_refl _) o), hA, fun x hx => ?_, h0, h'.below⟩
  rcases List.mem_cons.1 hx with rfl | hx
  · exact ⟨new_at rfl, R.far _ (Nat.le_refl _)⟩
  · exact ⟨(old_at (Array.getElem?_eq_some_iff.1 (hk x hx).1).1).trans (hk x hx).1, (hk x hx).2⟩
theorem KS.kept {w0 w : World} {p : Nat} {A : Abs} {kept : List (Nat × Obj)} (h : KS w0 p A kept w) {x : Nat × Obj} (hx : x ∈ kept) : w.heap[x.1]? = some x.2 := by
  obtain ⟨ρ, N, R, hA, hk, h0, hb0⟩ := h
  exact (hk x hx).1
/-- A kept box is written. -/
theorem KS.put {w0 w : World} {p : Nat} {A : Abs} {kept : List (Nat × Obj)} {B : Nat} {cs : Array Value} {t : TypeId} (h : KS w0 p A ((B, .cells cs t (0, 0)) :: kept) w) (hB : w0.heap.size ≤ B) (hn : ∀ x ∈ kept, x.1 ≠ B) (i : Nat) (v : Value) :
    KS w0 p A ((B, .cells (cs.setIfInBounds i v) t (0, 0)) :: kept) (w.setCell ⟨B, i, none⟩ v) := by
  obtain ⟨ρ, N, R, hA, hk, h0, hb0⟩ := h
  have hkB := hk (B, .cells cs t (0, 0)) (List.mem_cons_self ..)
  refine ⟨ρ, N, R.stays (by rw [set_size]; exact Nat.le_refl _) (fun b hb => set_other (fun e => hb (by rw [e]; exact hkB.2))), hA, fun x hx => ?_, h0, hb0.setCell (p := ⟨B, i, none⟩) hB v⟩
  rcases List.mem_cons.1 hx with rfl | hx
  · exact ⟨set_at hkB.1, hkB.2⟩
  · exact ⟨(set_other (hn x hx)).trans (hk x (List.mem_cons_of_mem _ hx)).1, (hk x (List.mem_cons_of_mem _ hx)).2⟩

def A0 : Abs := ⟨[], [], [], fun _ _ => false, 0, 0⟩
def zeroNet : Array Value := #[.slice none 0 0, .slice none 0 0, .slice none 0 0, .map none, .int .i64 0]
/-- A new network. -/
theorem KS.new (w : World) : KS w w.heap.size A0 [] (w.alloc (.cells zeroNet 29)) := by
  refine ⟨fun b => if b = w.heap.size then 1 else 0, ⟨[], [], [], fun _ _ => false, 0, 0, .slice none 0 0, .slice none 0 0, .slice none 0 0, .map none⟩, ?_, rfl, by simp, fun b hb => if_neg (by omega), (Below.refl _ _).alloc (Nat.le_refl _) _⟩
  constructor
  · exact new_at rfl
  · exact World.ownsRow_nil _ _ _ _
  · exact World.ownsRow_nil _ _ _ _
  · exact World.ownsRow_nil _ _ _ _
  · exact .inl ⟨rfl, fun _ _ => rfl⟩
  · simp
  · simp
  · simp
  · intro b hb; cases hb
  · intro b hb; cases hb
  · intro b hb; cases hb
  · intro b hb; cases hb
  · simp
  · simp
  · intro b hb; simp at hb; exact if_neg (by omega)
  · exact List.Pairwise.nil
  · simp
  · simp
  · simp

/-- Whose bytes are they? -/
def Theirs (w0 : World) (kept : List (Nat × Obj)) (v : Value) : Prop := ∀ b, v.ownBlock = some b → b < w0.heap.size ∨ ∃ x ∈ kept, x.1 = b

theorem KS.send {w0 w : World} {p : Nat} {A : Abs} {kept : List (Nat × Obj)} (h : KS w0 p A kept w) (T : Tiny A) (q : Pk) (hr : rdB w q.bv q.bs) (ht : Theirs w0 kept q.bv) (hq : validB q = true) (hf : A.fl.length < 64) (hh : A.hist.length < 1024) :
    ∃ w', KS w0 p { A with fl := A.fl ++ [⟨q.frm, q.to, q.bs, A.next, A.hist.length⟩], hist := A.hist ++ [q.abs], evs := A.evs ++ [⟨1, A.next, -1⟩], next := A.next + 1 } kept w' ∧
      Calls Try.prog 10 #[.pointer (some ⟨p, 0, none⟩), q.val] w fun e w'' => e = .returned (.tuple #[.int .i64 A.next, .int .i64 0]) ∧ w' = w'' := by
  obtain ⟨ρ, N, R, rfl, hk, h0, hb0⟩ := h
  obtain ⟨b1, b2, vh', vf', ve', ρ', w', R', S', call⟩ := send_ok R T.small q hr (fun _ b hb => by
    rcases ht b hb with h | ⟨x, hx, rfl⟩
    · exact h0 b h
    · exact (hk x hx).2) hq (by simpa [Net.abs] using hf) (by simpa [Net.abs] using hh)
  exact ⟨w', KS.next hk h0 hb0 R' (by simp [Net.abs, Fl.abs, Pk.abs]) S', call⟩
theorem KS.full {w0 w : World} {p : Nat} {A : Abs} {kept : List (Nat × Obj)} (h : KS w0 p A kept w) (T : Tiny A) (q : Pk) (hr : rdB w q.bv q.bs) (hq : validB q = true) (hf : 64 ≤ A.fl.length ∨ 1024 ≤ A.hist.length) :
    Calls Try.prog 10 #[.pointer (some ⟨p, 0, none⟩), q.val] w fun e w' => e = .returned (.tuple #[.int .i64 0, .int .i64 7]) ∧ KS w0 p A kept w' := by
  have h' := h
  obtain ⟨ρ, N, R, rfl, hk, h0, hb0⟩ := h'
  exact (send_full R T.small q hr hq (by simpa [Net.abs] using hf)).mono fun e w' ⟨he, hb⟩ => ⟨he, h.stays hb⟩
theorem map_get {α β : Type} {f : α → β} {l : List α} {i : Nat} {y : β} (h : (l.map f)[i]? = some y) : ∃ x, l[i]? = some x ∧ f x = y := by
  rw [List.getElem?_map] at h
  cases hx : l[i]? with
  | none => rw [hx] at h; cases h
  | some x => rw [hx] at h; exact ⟨x, rfl, Option.some.inj h⟩
end Go.Proofs.Ytiindnmelegkgaa
end
/- The methods over a network in plain words. -/
section
namespace Go.Proofs.Ytiindnmelegkgaa
open Go.RowKit
set_option linter.unusedSimpArgs false
set_option linter.unusedVariables false

theorem map_erase {α β : Type} (f : α → β) : ∀ (l : List α) (i : Nat), (l.eraseIdx i).map f = (l.map f).eraseIdx i
  | [], i => by simp
  | x :: l, 0 => by simp
  | x :: l, i + 1 => by simp [map_erase f l i]

section
variable {w0 w : World} {p : Nat} {A : Abs} {kept : List (Nat × Obj)}
def AHits (A : Abs) (id : Int) (i : Nat) (x : AFl) : Prop := A.fl[i]? = some x ∧ (x.id : Int) = id
def AMisses (A : Abs) (id : Int) : Prop := ∀ x ∈ A.fl, (x.id : Int) ≠ id
theorem AHits.net {N : Net} {id : Int} {i : Nat} {x : AFl} (h : AHits N.abs id i x) : ∃ y, Hits N.fl id i y ∧ y.abs = x := by
  obtain ⟨y, hy, rfl⟩ := map_get h.1
  exact ⟨y, ⟨hy, h.2⟩, rfl⟩
theorem AMisses.net {N : Net} {id : Int} (h : AMisses N.abs id) : Misses N.fl id := fun x hx => h x.abs (List.mem_map_of_mem hx)

theorem KS.dup (h : KS w0 p A kept w) (T : Tiny A) {id : Int} {i : Nat} {x : AFl} (hx : AHits A id i x) (hf : A.fl.length < 64) :
    Calls Try.prog 15 #[.pointer (some ⟨p, 0, none⟩), .int .i64 id] w fun e w' => e = .returned (.tuple #[.int .i64 A.next, .int .i64 0]) ∧
      KS w0 p { A with fl := A.fl ++ [⟨x.frm, x.to, x.bs, A.next, x.src⟩], evs := A.evs ++ [⟨4, A.next, id⟩], next := A.next + 1 } kept w' := by
  obtain ⟨ρ, N, R, rfl, hk, h0, hb0⟩ := h
  obtain ⟨y, hy, rfl⟩ := hx.net
  refine (dup_ok R T.small hy (by simpa [Net.abs] using hf)).mono ?_
  rintro e w' ⟨rfl, bv', vf', ve', ρ', R', S'⟩
  exact ⟨rfl, KS.next hk h0 hb0 R' (by simp [Net.abs, Fl.abs]) S'⟩
theorem KS.replay (h : KS w0 p A kept w) (T : Tiny A) (k : Nat) {q : APk} (hk' : A.hist[k]? = some q) (hf : A.fl.length < 64) :
    Calls Try.prog 14 #[.pointer (some ⟨p, 0, none⟩), .int .i64 k] w fun e w' => e = .returned (.tuple #[.int .i64 A.next, .int .i64 0]) ∧
      KS w0 p { A with fl := A.fl ++ [⟨q.frm, q.to, q.bs, A.next, k⟩], evs := A.evs ++ [⟨7, A.next, k⟩], next := A.next + 1 } kept w' := by
  obtain ⟨ρ, N, R, rfl, hk, h0, hb0⟩ := h
  obtain ⟨y, hy, rfl⟩ := map_get hk'
  refine (replay_ok R T.small k y hy (by simpa [Net.abs] using hf)).mono ?_
  rintro e w' ⟨rfl, bv', vf', ve', ρ', R', S'⟩
  exact ⟨rfl, KS.next hk h0 hb0 R' (by simp [Net.abs, Fl.abs, Pk.abs]) S'⟩
theorem KS.miss (h : KS w0 p A kept w) (T : Tiny A) {id : Int} (hx : AMisses A id) (h1 : -9223372036854775808 ≤ id) (h2 : id ≤ 9223372036854775807) :
    Calls Try.prog 11 #[.pointer (some ⟨p, 0, none⟩), .int .i64 id] w fun e w' => e = .returned (.tuple #[zeroPk, .int .i64 9]) ∧ KS w0 p A kept w' := by
  have h' := h
  obtain ⟨ρ, N, R, rfl, hk, h0, hb0⟩ := h'
  exact (deliver_miss R T.small hx.net h1 h2).mono fun e w' ⟨he, hb⟩ => ⟨he, h.stays hb⟩
theorem KS.stuck (h : KS w0 p A kept w) (T : Tiny A) {id : Int} {i : Nat} {x : AFl} (hx : AHits A id i x) (hb : A.bl x.frm x.to = true) :
    Calls Try.prog 11 #[.pointer (some ⟨p, 0, none⟩), .int .i64 id] w fun e w' => e = .returned (.tuple #[zeroPk, .int .i64 8]) ∧ KS w0 p A kept w' := by
  have h' := h
  obtain ⟨ρ, N, R, rfl, hk, h0, hb0⟩ := h'
  obtain ⟨y, hy, rfl⟩ := hx.net
  exact (deliver_blocked R T.small hy hb).mono fun e w' ⟨he, hb⟩ => ⟨he, h.stays hb⟩
/-- A packet's bytes lie in a block that the network has let go. -/
def KSq (w0 : World) (p : Nat) (A : Abs) (kept : List (Nat × Obj)) (q : Pk) (w : World) : Prop :=
  ∃ ρ N, Rep ρ w p N ∧ N.abs = A ∧ (∀ x ∈ kept, w.heap[x.1]? = some x.2 ∧ ρ x.1 = 0) ∧ (∀ b, b < w0.heap.size → ρ b = 0) ∧ Below w0.heap.size w0 w ∧ ownB w q.bv q.bs ∧ ∀ b, q.bv.ownBlock = some b → ρ b = 0
theorem KS.deliver (h : KS w0 p A kept w) (T : Tiny A) {id : Int} {i : Nat} {x : AFl} (hx : AHits A id i x) (hb : A.bl x.frm x.to = false) :
    Calls Try.prog 11 #[.pointer (some ⟨p, 0, none⟩), .int .i64 id] w fun e w' => ∃ q : Pk, e = .returned (.tuple #[q.val, .int .i64 0]) ∧ q.abs = ⟨x.frm, x.to, x.bs⟩ ∧
      KSq w0 p { A with fl := A.fl.eraseIdx i, evs := A.evs ++ [⟨2, x.id, -1⟩] } kept q w' := by
  obtain ⟨ρ, N, R, rfl, hk, h0, hb0⟩ := h
  obtain ⟨y, hy, rfl⟩ := hx.net
  refine (deliver_ok R T.small hy hb).mono ?_
  rintro e w' ⟨rfl, ρ', vf', ve', R', S', O', F'⟩
  obtain ⟨ρ2, N2, R2, hA2, hk2, h02, hb2⟩ : KS w0 p { N.abs with fl := N.abs.fl.eraseIdx i, evs := N.abs.evs ++ [⟨2, y.abs.id, -1⟩] } kept w' := KS.next hk h0 hb0 R' (by simp [Net.abs, Fl.abs, map_erase]) S'
  refine ⟨y.p, rfl, rfl, ρ', _, R', ?_, ?_, ?_, hb2, O', F'⟩
  · simp [Net.abs, Fl.abs, map_erase]
  · exact fun x hx => ⟨(S'.block x.1 (Array.getElem?_eq_some_iff.1 (hk x hx).1).1 (hk x hx).2).trans (hk x hx).1, S'.role x.1 (Array.getElem?_eq_some_iff.1 (hk x hx).1).1 (hk x hx).2⟩
  · exact fun b h => S'.role b (Nat.lt_of_lt_of_le h hb0.size) (h0 b h)
theorem KSq.ks {q : Pk} (h : KSq w0 p A kept q w) : KS w0 p A kept w := by
  obtain ⟨ρ, N, R, hA, hk, h0, hb, _, _⟩ := h
  exact ⟨ρ, N, R, hA, hk, h0, hb⟩
/-- .. and it may be kept. -/
theorem KSq.keep {q : Pk} (h : KSq w0 p A kept q w) : (q.bv = .slice none 0 0 ∧ q.bs = []) ∨ ∃ g cap cur, q.bv = .slice (some ⟨g, 0, none⟩) q.bs.length cap ∧ KS w0 p A ((g, .cells cur 5 (0, 0)) :: kept) w ∧ q.bs.length ≤ cap ∧ cap ≤ maxLen ∧ cur.size = cap * 1 ∧ cur.toList.take (q.bs.length * 1) = q.bs.map (Value.int .u8) := by
  obtain ⟨ρ, N, R, hA, hk, h0, hb, ho, hf⟩ := h
  rcases ho.2 with ⟨h1, h2⟩ | ⟨g, cap, cur, h1, _, h2, h3, h4, h5, h6⟩
  · exact .inl ⟨h1, List.length_eq_zero_iff.1 h2⟩
  · refine .inr ⟨g, cap, cur, h1, ⟨ρ, N, R, hA, fun x hx => ?_, h0, hb⟩, h3, h4, h5, h6⟩
    rcases List.mem_cons.1 hx with rfl | hx
    · exact ⟨h2, hf g (by rw [h1]; rfl)⟩
    · exact hk x hx
theorem set_map {N : Net} {i : Nat} {y : Fl} : N.abs.fl.set i y.abs = (N.fl.set i y).map Fl.abs := by simp [Net.abs, List.map_set]
theorem KS.alter (h : KS w0 p A kept w) (T : Tiny A) {id : Int} {i : Nat} {x : AFl} (hx : AHits A id i x) (off : Nat) (m y : Int) (hm : (m == 0) = false) (hy : x.bs[off]? = some y) :
    Calls Try.prog 19 #[.pointer (some ⟨p, 0, none⟩), .int .i64 id, .int .i64 off, .int .u8 m] w fun e w' => e = .returned (.int .i64 0) ∧
      KS w0 p { A with fl := A.fl.set i { x with bs := x.bs.set off (bits .xor .u8 y m) }, evs := A.evs ++ [⟨5, id, -1⟩] } kept w' := by
  obtain ⟨ρ, N, R, rfl, hk, h0, hb0⟩ := h
  obtain ⟨z, hz, rfl⟩ := hx.net
  refine (alter_ok R T.small hz off m y hm hy).mono ?_
  rintro e w' ⟨rfl, ρ', ve', R', S'⟩
  exact ⟨rfl, KS.next hk h0 hb0 R' (by simp [Net.abs, List.map_set, Fl.abs]) S'⟩
theorem KS.range (h : KS w0 p A kept w) (T : Tiny A) {id : Int} {i : Nat} {x : AFl} (hx : AHits A id i x) (off m : Int) (hm : (m == 0) = false) (ho : off < 0 ∨ (x.bs.length : Int) ≤ off) :
    Calls Try.prog 19 #[.pointer (some ⟨p, 0, none⟩), .int .i64 id, .int .i64 off, .int .u8 m] w fun e w' => e = .returned (.int .i64 3) ∧ KS w0 p A kept w' ∧ Below w.heap.size w w' := by
  have h' := h
  obtain ⟨ρ, N, R, rfl, hk, h0, hb0⟩ := h'
  obtain ⟨z, hz, rfl⟩ := hx.net
  exact (alter_range R T.small hz off m hm ho).mono fun e w' ⟨he, hb⟩ => ⟨he, h.stays hb, hb⟩
theorem KS.redirect (h : KS w0 p A kept w) (T : Tiny A) {id : Int} {i : Nat} {x : AFl} (hx : AHits A id i x) (to : ByteArray) (ht : hostB to = true) :
    Calls Try.prog 20 #[.pointer (some ⟨p, 0, none⟩), .int .i64 id, .string to] w fun e w' => e = .returned (.int .i64 0) ∧
      KS w0 p { A with fl := A.fl.set i { x with to := to }, evs := A.evs ++ [⟨6, id, -1⟩] } kept w' := by
  obtain ⟨ρ, N, R, rfl, hk, h0, hb0⟩ := h
  obtain ⟨z, hz, rfl⟩ := hx.net
  refine (redirect_ok R T.small hz to ht).mono ?_
  rintro e w' ⟨rfl, ρ', ve', R', S'⟩
  exact ⟨rfl, KS.next hk h0 hb0 R' (by simp [Net.abs, List.map_set, Fl.abs]) S'⟩
theorem KS.source (h : KS w0 p A kept w) (T : Tiny A) {id : Int} {i : Nat} {x : AFl} (hx : AHits A id i x) :
    Calls Try.prog 25 #[.pointer (some ⟨p, 0, none⟩), .int .i64 id] w fun e w' => e = .returned (.tuple #[.int .i64 x.src, .int .i64 0]) ∧ KS w0 p A kept w' := by
  have h' := h
  obtain ⟨ρ, N, R, rfl, hk, h0, hb0⟩ := h'
  obtain ⟨z, hz, rfl⟩ := hx.net
  exact (source_hit R T.small hz).mono fun e w' ⟨he, hb⟩ => ⟨he, h.stays hb⟩
def sameA (x : AFl) (q : APk) : Bool := (x.frm.toList == q.frm.toList) && (x.to.toList == q.to.toList) && decide (x.bs = q.bs)
theorem KS.genuine (h : KS w0 p A kept w) (T : Tiny A) {id : Int} {i : Nat} {x : AFl} (hx : AHits A id i x) (k : Nat) (hk' : x.src = k) {q : APk} (hq : A.hist[k]? = some q) :
    Calls Try.prog 16 #[.pointer (some ⟨p, 0, none⟩), .int .i64 id] w fun e w' => e = .returned (.tuple #[.bool (sameA x q), .int .i64 0]) ∧ KS w0 p A kept w' := by
  have h' := h
  obtain ⟨ρ, N, R, rfl, hk, h0, hb0⟩ := h'
  obtain ⟨z, hz, rfl⟩ := hx.net
  obtain ⟨y, hy, rfl⟩ := map_get hq
  exact (genuine_src R T.small hz k hk' y hy).mono fun e w' ⟨he, hb⟩ => ⟨he, h.stays hb⟩
theorem KS.block (h : KS w0 p A kept w) (T : Tiny A) (f t : ByteArray) (hf : hostB f = true) (ht : hostB t = true) (bl' : ByteArray → ByteArray → Bool) (hbl : ∀ f' t', bl' f' t' = true ↔ (f' = f ∧ t' = t) ∨ A.bl f' t' = true) :
    Calls Try.prog 21 #[.pointer (some ⟨p, 0, none⟩), .string f, .string t] w fun e w' => e = .returned (.int .i64 0) ∧ KS w0 p { A with bl := bl', cnt := A.cnt + 1 } kept w' := by
  obtain ⟨ρ, N, R, rfl, hk, h0, hb0⟩ := h
  refine (block_ok R T.small f t hf ht bl' hbl).mono ?_
  rintro e w' ⟨rfl, ρ', vm', R', S'⟩
  exact ⟨rfl, KS.next hk h0 hb0 R' rfl S'⟩
theorem KS.events (h : KS w0 p A kept w) (T : Tiny A) :
    Calls Try.prog 23 #[.pointer (some ⟨p, 0, none⟩)] w fun e w' => EvSeq w w' A.evs e ∧ KS w0 p A kept w' := by
  have h' := h
  obtain ⟨ρ, N, R, rfl, hk, h0, hb0⟩ := h'
  exact (events_any R T.small).mono fun e w' he => ⟨he, h.stays he.2⟩
end
end Go.Proofs.Ytiindnmelegkgaa
end
