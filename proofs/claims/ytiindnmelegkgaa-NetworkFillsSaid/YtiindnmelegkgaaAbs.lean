/- A network in plain words; the methods over it. -/
import Derived.Test.YtiindnmelegkgaaAll
namespace Go.Proofs.Ytiindnmelegkgaa
open Go.RowKit
set_option linter.unusedSimpArgs false
set_option linter.unusedVariables false

structure AFl where
  frm : ByteArray
  to : ByteArray
  bs : List Int
  id : Nat
  src : Int
structure APk where
  frm : ByteArray
  to : ByteArray
  bs : List Int
structure Abs where
  fl : List AFl
  hist : List APk
  evs : List Ev
  bl : ByteArray → ByteArray → Bool
  cnt : Nat
  next : Nat
def Pk.abs (x : Pk) : APk := ⟨x.frm, x.to, x.bs⟩
def Fl.abs (x : Fl) : AFl := ⟨x.p.frm, x.p.to, x.p.bs, x.id, x.src⟩
def Net.abs (N : Net) : Abs := ⟨N.fl.map Fl.abs, N.hist.map Pk.abs, N.evs, N.bl, N.cnt, N.next⟩
structure Tiny (A : Abs) : Prop where
  next : A.next ≤ 1000000
  evs : A.evs.length ≤ 1000000
  fl : A.fl.length ≤ 1000000
  hist : A.hist.length ≤ 1000000
  cnt : A.cnt ≤ 1000000
theorem Tiny.small {N : Net} (h : Tiny N.abs) : Small N := ⟨h.next, h.evs, by simpa [Net.abs] using h.fl, by simpa [Net.abs] using h.hist, h.cnt⟩

/-- A network at p that reads as A, made since the world w0; and boxes that are kept. -/
def KS (w0 : World) (p : Nat) (A : Abs) (kept : List (Nat × Obj)) (w : World) : Prop :=
  ∃ ρ N, Rep ρ w p N ∧ N.abs = A ∧ (∀ x ∈ kept, w.heap[x.1]? = some x.2 ∧ ρ x.1 = 0) ∧ (∀ b, b < w0.heap.size → ρ b = 0) ∧ Below w0.heap.size w0 w
theorem KS.below {w0 w : World} {p : Nat} {A : Abs} {kept : List (Nat × Obj)} (h : KS w0 p A kept w) : Below w0.heap.size w0 w := by
  obtain ⟨_, _, _, _, _, _, h⟩ := h; exact h
theorem KS.next {w0 w w' : World} {p : Nat} {A : Abs} {kept : List (Nat × Obj)} {ρ ρ' : Nat → Nat} {N' : Net} (hk : ∀ x ∈ kept, w.heap[x.1]? = some x.2 ∧ ρ x.1 = 0) (h0 : ∀ b, b < w0.heap.size → ρ b = 0) (hb : Below w0.heap.size w0 w)
    (R' : Rep ρ' w' p N') (hA : N'.abs = A) (S : Step ρ ρ' w w') : KS w0 p A kept w' :=
  ⟨ρ', N', R', hA, fun x hx => ⟨(S.block x.1 (Array.getElem?_eq_some_iff.1 (hk x hx).1).1 (hk x hx).2).trans (hk x hx).1, S.role x.1 (Array.getElem?_eq_some_iff.1 (hk x hx).1).1 (hk x hx).2⟩,
    fun b h => S.role b (Nat.lt_of_lt_of_le h hb.size) (h0 b h), hb.trans (S.below hb.size h0)⟩
theorem KS.stays {w0 w w' : World} {p : Nat} {A : Abs} {kept : List (Nat × Obj)} (h : KS w0 p A kept w) (hb : Below w.heap.size w w') : KS w0 p A kept w' := by
  obtain ⟨ρ, N, R, hA, hk, h0, hb0⟩ := h
  exact KS.next hk h0 hb0 (R.below hb) hA (Below.step hb)
theorem KS.drew {w0 w : World} {p : Nat} {A : Abs} {kept : List (Nat × Obj)} (h : KS w0 p A kept w) : KS w0 p A kept w.drew := h.stays (Below.refl _ _).drew
/-- A box is laid. -/
theorem KS.box {w0 w : World} {p : Nat} {A : Abs} {kept : List (Nat × Obj)} (h : KS w0 p A kept w) (o : Obj) : KS w0 p A ((w.heap.size, o) :: kept) (w.alloc o) := by
  have h' := h.stays ((Below.refl _ _).alloc (Nat.le_refl _) o)
  obtain ⟨ρ, N, R, hA, hk, h0, hb0⟩ := h
  refine ⟨ρ, N, R.below ((Below.refl _ _).alloc (Nat.le_refl _) o), hA, fun x hx => ?_, h0, h'.below⟩
  rcases List.mem_cons.1 hx with rfl | hx
  · exact ⟨new_at rfl, R.far _ (Nat.le_refl _)⟩
  · exact ⟨(old_at (Array.getElem?_eq_some_iff.1 (hk x hx).1).1).trans (hk x hx).1, (hk x hx).2⟩
theorem KS.kept {w0 w : World} {p : Nat} {A : Abs} {kept : List (Nat × Obj)} (h : KS w0 p A kept w) {x : Nat × Obj} (hx : x ∈ kept) : w.heap[x.1]? = some x.2 := by
  obtain ⟨ρ, N, R, hA, hk, h0, hb0⟩ := h
  exact (hk x hx).1
/-- A kept box is written. -/
theorem KS.put {w0 w : World} {p : Nat} {A : Abs} {kept : List (Nat × Obj)} {B : Nat} {cs : Array Value} {t : TypeId} (h : KS w0 p A ((B, .cells cs t (0, 0)) :: kept) w) (hB : w0.heap.size ≤ B) (hn : ∀ x ∈ kept, x.1 ≠ B) (i : Nat) (v : Value) :
    KS w0 p A ((B, .cells (cs.setIfInBounds i v) t (0, 0)) :: kept) (w.setCell ⟨B, i, none⟩ v) := by
  obtain ⟨ρ, N, R, hA, hk, h0, hb0⟩ := h
  have hkB := hk (B, .cells cs t (0, 0)) (List.mem_cons_self ..)
  refine ⟨ρ, N, R.stays (by rw [set_size]; exact Nat.le_refl _) (fun b hb => set_other (fun e => hb (by rw [e]; exact hkB.2))), hA, fun x hx => ?_, h0, hb0.setCell (p := ⟨B, i, none⟩) hB v⟩
  rcases List.mem_cons.1 hx with rfl | hx
  · exact ⟨set_at hkB.1, hkB.2⟩
  · exact ⟨(set_other (hn x hx)).trans (hk x (List.mem_cons_of_mem _ hx)).1, (hk x (List.mem_cons_of_mem _ hx)).2⟩

def A0 : Abs := ⟨[], [], [], fun _ _ => false, 0, 0⟩
def zeroNet : Array Value := #[.slice none 0 0, .slice none 0 0, .slice none 0 0, .map none, .int .i64 0]
/-- A new network. -/
theorem KS.new (w : World) : KS w w.heap.size A0 [] (w.alloc (.cells zeroNet 29)) := by
  refine ⟨fun b => if b = w.heap.size then 1 else 0, ⟨[], [], [], fun _ _ => false, 0, 0, .slice none 0 0, .slice none 0 0, .slice none 0 0, .map none⟩, ?_, rfl, by simp, fun b hb => if_neg (by omega), (Below.refl _ _).alloc (Nat.le_refl _) _⟩
  constructor
  · exact new_at rfl
  · exact World.ownsRow_nil _ _ _ _
  · exact World.ownsRow_nil _ _ _ _
  · exact World.ownsRow_nil _ _ _ _
  · exact .inl ⟨rfl, fun _ _ => rfl⟩
  · simp
  · simp
  · simp
  · intro b hb; cases hb
  · intro b hb; cases hb
  · intro b hb; cases hb
  · intro b hb; cases hb
  · simp
  · simp
  · intro b hb; simp at hb; exact if_neg (by omega)
  · exact List.Pairwise.nil
  · simp
  · simp
  · simp

/-- Whose bytes are they? -/
def Theirs (w0 : World) (kept : List (Nat × Obj)) (v : Value) : Prop := ∀ b, v.ownBlock = some b → b < w0.heap.size ∨ ∃ x ∈ kept, x.1 = b

theorem KS.send {w0 w : World} {p : Nat} {A : Abs} {kept : List (Nat × Obj)} (h : KS w0 p A kept w) (T : Tiny A) (q : Pk) (hr : rdB w q.bv q.bs) (ht : Theirs w0 kept q.bv) (hq : validB q = true) (hf : A.fl.length < 64) (hh : A.hist.length < 1024) :
    ∃ w', KS w0 p { A with fl := A.fl ++ [⟨q.frm, q.to, q.bs, A.next, A.hist.length⟩], hist := A.hist ++ [q.abs], evs := A.evs ++ [⟨1, A.next, -1⟩], next := A.next + 1 } kept w' ∧
      Calls Try.prog 10 #[.pointer (some ⟨p, 0, none⟩), q.val] w fun e w'' => e = .returned (.tuple #[.int .i64 A.next, .int .i64 0]) ∧ w' = w'' := by
  obtain ⟨ρ, N, R, rfl, hk, h0, hb0⟩ := h
  obtain ⟨b1, b2, vh', vf', ve', ρ', w', R', S', call⟩ := send_ok R T.small q hr (fun b hb => by
    rcases ht b hb with h | ⟨x, hx, rfl⟩
    · exact h0 b h
    · exact (hk x hx).2) hq (by simpa [Net.abs] using hf) (by simpa [Net.abs] using hh)
  exact ⟨w', KS.next hk h0 hb0 R' (by simp [Net.abs, Fl.abs, Pk.abs]) S', call⟩
theorem KS.full {w0 w : World} {p : Nat} {A : Abs} {kept : List (Nat × Obj)} (h : KS w0 p A kept w) (T : Tiny A) (q : Pk) (hr : rdB w q.bv q.bs) (hq : validB q = true) (hf : 64 ≤ A.fl.length ∨ 1024 ≤ A.hist.length) :
    Calls Try.prog 10 #[.pointer (some ⟨p, 0, none⟩), q.val] w fun e w' => e = .returned (.tuple #[.int .i64 0, .int .i64 7]) ∧ KS w0 p A kept w' := by
  have h' := h
  obtain ⟨ρ, N, R, rfl, hk, h0, hb0⟩ := h'
  exact (send_full R T.small q hr hq (by simpa [Net.abs] using hf)).mono fun e w' ⟨he, hb⟩ => ⟨he, h.stays hb⟩
theorem map_get {α β : Type} {f : α → β} {l : List α} {i : Nat} {y : β} (h : (l.map f)[i]? = some y) : ∃ x, l[i]? = some x ∧ f x = y := by
  rw [List.getElem?_map] at h
  cases hx : l[i]? with
  | none => rw [hx] at h; cases h
  | some x => rw [hx] at h; exact ⟨x, rfl, Option.some.inj h⟩
end Go.Proofs.Ytiindnmelegkgaa
