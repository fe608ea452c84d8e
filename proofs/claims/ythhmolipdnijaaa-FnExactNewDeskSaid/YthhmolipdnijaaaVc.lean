/- All operations of a region in the text's order. -/
import Derived.Test.YthhmolipdnijaaaVb
import Derived.Laws.AppendOwn
import Derived.Laws.CopyRow
set_option linter.unusedVariables false
set_option linter.unusedSimpArgs false
set_option linter.unnecessarySimpa false
namespace Go.V
open Go.RowKit

/-! ### Lists of one kind of element as those of another -/

def lcast : (t t' : STy) → List t'.S → Option (List t.S)
  | .int k, .int k', l => bif kEq k k' then some l else none
  | .bool, .bool, l => some l
  | .flt k, .flt k', l => bif fkEq k k' then some l else none
  | .cpx k, .cpx k', l => bif fkEq k k' then some l else none
  | .str, .str, l => some l
  | t, t', l => if h : t' = t then some (h ▸ l) else none

theorem lcast_spec {t t' : STy} {l : List t'.S} {m : List t.S} (h : lcast t t' l = some m) : ∃ e : t' = t, m = e ▸ l := by
  unfold lcast at h
  split at h
  · rename_i k k' l
    cases ek : kEq k k'
    · rw [ek] at h; cases h
    · rw [ek] at h; obtain rfl := kEq_eq ek; cases h; exact ⟨rfl, rfl⟩
  · cases h; exact ⟨rfl, rfl⟩
  · rename_i k k' l
    cases ek : fkEq k k'
    · rw [ek] at h; cases h
    · rw [ek] at h; obtain rfl := fkEq_eq ek; cases h; exact ⟨rfl, rfl⟩
  · rename_i k k' l
    cases ek : fkEq k k'
    · rw [ek] at h; cases h
    · rw [ek] at h; obtain rfl := fkEq_eq ek; cases h; exact ⟨rfl, rfl⟩
  · cases h; exact ⟨rfl, rfl⟩
  · split at h
    · rename_i e; cases h; exact ⟨e, rfl⟩
    · cases h

/-- Cells as one element. Slices among them must lie in new memory. -/
def decInt (k : IntKind) : List AV → Option Int
  | [.val (.int k' n)] => bif kEq k k' then some n else none
  | _ => none
def decBool : List AV → Option Bool
  | [.val (.bool b)] => some b
  | [.tt] => some true
  | [.ff] => some false
  | _ => none
def decFlt (k : FloatKind) : List AV → Option Nat
  | [.flt k' x] => bif fkEq k k' then some x else none
  | _ => none
def decCpx (k : FloatKind) : List AV → Option (Nat × Nat)
  | [.cpx k' x y] => bif fkEq k k' then some (x, y) else none
  | _ => none
def decStr : List AV → Option ByteArray
  | [.val (.string s)] => some s
  | _ => none
def decSl (e : STy) : List AV → Option (List e.S)
  | [.sl true e' l] => lcast e e' l
  | _ => none
def dec : (t : STy) → List AV → Option t.S
  | .int k => decInt k
  | .bool => decBool
  | .flt k => decFlt k
  | .cpx k => decCpx k
  | .str => decStr
  | .sl e => decSl e
  | .pair a b => fun cs => match dec a (cs.take a.n), dec b (cs.drop a.n) with
    | some x, some y => some (x, y)
    | _, _ => none

section
variable {w : World} {F G : Nat → Prop} {φ : Nat → Value} {H : Heap}

theorem RelL.one {c : AV} {us : List Value} (h : RelL w F G φ H [c] us) : ∃ u, us = [u] ∧ Rel w F G φ H c u := by
  simp only [RelL] at h
  obtain ⟨v, vs, rfl, h1, rfl⟩ := h
  exact ⟨v, rfl, h1⟩

theorem RelL.split {cs : List AV} {us : List Value} (n : Nat) (h : RelL w F G φ H cs us) : us = us.take n ++ us.drop n ∧ RelL w F G φ H (cs.take n) (us.take n) ∧ RelL w F G φ H (cs.drop n) (us.drop n) :=
  ⟨by simp, h.take n, h.drop n⟩

theorem dec_rel : ∀ (t : STy) (cs : List AV) (x : t.S) (us : List Value), dec t cs = some x → RelL w F G φ H cs us → RdC w G t x us := by
  intro t
  induction t with
  | int k =>
    intro cs x us h hr
    simp only [dec, decInt] at h
    split at h
    · rename_i k' n
      cases ek : kEq k k'
      · rw [ek] at h; cases h
      · rw [ek] at h; obtain rfl := kEq_eq ek; cases h
        obtain ⟨u, rfl, h1⟩ := hr.one; simp only [Rel] at h1; subst h1; rfl
    · cases h
  | bool =>
    intro cs x us h hr
    simp only [dec, decBool] at h
    split at h
    · cases h; obtain ⟨u, rfl, h1⟩ := hr.one; simp only [Rel] at h1; subst h1; rfl
    · cases h; obtain ⟨u, rfl, h1⟩ := hr.one; simp only [Rel] at h1; subst h1; rfl
    · cases h; obtain ⟨u, rfl, h1⟩ := hr.one; simp only [Rel] at h1; subst h1; rfl
    · cases h
  | flt k =>
    intro cs x us h hr
    simp only [dec, decFlt] at h
    split at h
    · rename_i k' n
      cases ek : fkEq k k'
      · rw [ek] at h; cases h
      · rw [ek] at h; obtain rfl := fkEq_eq ek; cases h
        obtain ⟨u, rfl, h1⟩ := hr.one; simp only [Rel] at h1; obtain ⟨b, rfl, hb⟩ := h1; exact ⟨b, rfl, hb⟩
    · cases h
  | cpx k =>
    intro cs x us h hr
    simp only [dec, decCpx] at h
    split at h
    · rename_i k' n m
      cases ek : fkEq k k'
      · rw [ek] at h; cases h
      · rw [ek] at h; obtain rfl := fkEq_eq ek; cases h
        obtain ⟨u, rfl, h1⟩ := hr.one; simp only [Rel] at h1; obtain ⟨a, b, rfl, ha, hb⟩ := h1; exact ⟨a, b, rfl, ha, hb⟩
    · cases h
  | str =>
    intro cs x us h hr
    simp only [dec, decStr] at h
    split at h
    · cases h; obtain ⟨u, rfl, h1⟩ := hr.one; simp only [Rel] at h1; subst h1; rfl
    · cases h
  | sl e ih =>
    intro cs x us h hr
    simp only [dec, decSl] at h
    split at h
    · rename_i e' l
      obtain ⟨he, hx⟩ := lcast_spec h
      subst he; subst hx
      obtain ⟨u, rfl, h1⟩ := hr.one; simp only [Rel] at h1
      exact ⟨u, rfl, h1⟩
    · cases h
  | pair a b iha ihb =>
    intro cs x us h hr
    simp only [dec] at h
    split at h
    · rename_i y z h1 h2
      cases h
      obtain ⟨e1, e2, e3⟩ := hr.split a.n
      exact ⟨_, _, e1, iha _ _ _ h1 e2, ihb _ _ _ h2 e3⟩
    · cases h

theorem RdC.oneCell : ∀ (t : STy) (x : t.S) (us : List Value), RdC w F t x us → ∀ u ∈ us, u.oneCell' = true := by
  intro t
  induction t with
  | int k => rintro x us rfl u hu; simp at hu; subst hu; rfl
  | bool => rintro x us rfl u hu; simp at hu; subst hu; rfl
  | flt k => rintro x us ⟨b, rfl, _⟩ u hu; simp at hu; subst hu; rfl
  | cpx k => rintro x us ⟨a, b, rfl, _⟩ u hu; simp at hu; subst hu; rfl
  | str => rintro x us rfl u hu; simp at hu; subst hu; rfl
  | sl e ih =>
    rintro l us ⟨v, rfl, h⟩ u hu
    simp at hu; subst hu
    rcases h with ⟨_, a, c, rfl⟩ | ⟨b, o, c, rfl, _⟩ <;> rfl
  | pair a b iha ihb =>
    rintro p us ⟨u1, u2, rfl, h2, h3⟩ u hu
    rw [List.mem_append] at hu
    rcases hu with hu | hu
    · exact iha _ _ h2 u hu
    · exact ihb _ _ h3 u hu

/-- The cells of elements, one behind the other. -/
theorem flat_cells {w : World} {F : Nat → Prop} {t : STy} (b off : Nat) : ∀ (l : List t.S), (∀ i x, l[i]? = some x → ∃ us, us.length = t.n ∧ RdC w F t x us ∧ cellsAt w b (off + i * t.n) us) →
    ∃ fs : List Value, fs.length = l.length * t.n ∧ cellsAt w b off fs ∧ (∀ u ∈ fs, u.oneCell' = true) ∧ ∀ i x, l[i]? = some x → RdC w F t x ((fs.drop (i * t.n)).take t.n)
  | [], _ => ⟨[], by simp, by intro j u hj; simp at hj, by simp, by intro i x hx; simp at hx⟩
  | x :: l, h => by
    obtain ⟨us, h1, h2, h3⟩ := h 0 x rfl
    simp only [Nat.zero_mul, Nat.add_zero] at h3
    have ih := flat_cells (w := w) (F := F) b (off + t.n) l (fun i y hy => by
      obtain ⟨vs, k1, k2, k3⟩ := h (i + 1) y (by simpa using hy)
      exact ⟨vs, k1, k2, by rw [show off + t.n + i * t.n = off + (i + 1) * t.n by rw [Nat.add_mul]; omega]; exact k3⟩)
    obtain ⟨fs, e1, e2, e3, e4⟩ := ih
    refine ⟨us ++ fs, by simp [h1, e1, Nat.add_mul]; omega, ?_, ?_, ?_⟩
    · intro j u hj
      rw [List.getElem?_append] at hj
      split at hj
      · exact h3 j u hj
      · rename_i hge
        have := e2 (j - us.length) u hj
        rw [h1] at this hge
        rw [show off + j = off + t.n + (j - t.n) by omega]; exact this
    · intro u hu
      rw [List.mem_append] at hu
      rcases hu with hu | hu
      · exact RdC.oneCell t x us h2 u hu
      · exact e3 u hu
    · intro i y hy
      cases i with
      | zero =>
        simp at hy; subst hy
        simp only [Nat.zero_mul, List.drop_zero]
        rw [← h1, List.take_left]; exact h2
      | succ i =>
        have := e4 i y (by simpa using hy)
        rw [show (i + 1) * t.n = us.length + i * t.n by rw [h1, Nat.add_mul]; omega, List.drop_append]
        simp only [Nat.add_sub_cancel_left]
        rw [List.drop_eq_nil_of_le (by omega : us.length ≤ us.length + i * t.n), List.nil_append]
        exact this
end

/-! ### A new part of the heap -/

section heap
variable {N : Nat} {w0 : Base} {w w' : World} {E : Env} {H : Heap} {φ : Nat → Value} {a : Act}

def upd (φ : Nat → Value) (id : Nat) (v : Value) : Nat → Value := fun i => if i = id then v else φ i

theorem hkeeps_new {id : Nat} {C : Cont} {v : Value} (hn : hget H id = none) : HKeeps φ (upd φ id v) H ((id, C) :: H) where
  there := fun i hi => by rw [hget_cons]; split <;> simp_all
  row := fun i e t l hi h => by
    rw [hget_cons] at h
    split at h
    · rename_i e'; subst e'; rw [hn] at hi; cases hi
    · rename_i e'; exact ⟨l, h, rfl, by simp [upd, Ne.symm e']⟩
  box := fun i cs hi h => by
    rw [hget_cons] at h
    split at h
    · rename_i e'; subst e'; rw [hn] at hi; cases hi
    · rename_i e'; exact ⟨cs, h, by simp [upd, Ne.symm e']⟩

theorem hlive_cons {id i : Nat} {C : Cont} (h : hlive ((id, C) :: H) i) : i = id ∨ hlive H i := by
  obtain ⟨D, h1, h2⟩ := h
  rw [hget_cons] at h1
  split at h1
  · rename_i e; exact .inl e.symm
  · exact .inr ⟨D, h1, h2⟩

/-- A new block becomes a part of the heap. -/
theorem St.new (h : St N w0 E H φ a w) {id : Nat} {C : Cont} {v : Value} (hn : hget H id = none) (hb : Below w.heap.size w w')
    (hv : ∀ b, blk v = some b → w.heap.size ≤ b)
    (hg : GoodC w' (Fr (upd φ id v) ((id, C) :: H)) (Gr w0 (upd φ id v) ((id, C) :: H)) (upd φ id v) ((id, C) :: H) id C) : St N w0 E ((id, C) :: H) (upd φ id v) a w' := by
  have live : ∀ i, hlive ((id, C) :: H) i → ∀ b, blk (upd φ id v i) = some b → (i = id ∧ w.heap.size ≤ b) ∨ (i ≠ id ∧ hlive H i ∧ blk (φ i) = some b) := by
    intro i hi b hbk
    rcases hlive_cons hi with e | hl
    · subst e; left; exact ⟨rfl, hv b (by simpa [upd] using hbk)⟩
    · have hne : i ≠ id := by rintro rfl; obtain ⟨D, h1, _⟩ := hl; rw [hn] at h1; cases h1
      right; exact ⟨hne, hl, by simpa [upd, hne] using hbk⟩
  have hF : Keeps w w' (Fr φ H) (Fr (upd φ id v) ((id, C) :: H)) := fun b hf hlt => ⟨hb.block b hlt, fun i hi hbk => by
    rcases live i hi b hbk with ⟨_, h1⟩ | ⟨_, h1, h2⟩
    · omega
    · exact hf i h1 h2⟩
  have hG : Keeps w w' (Gr w0 φ H) (Gr w0 (upd φ id v) ((id, C) :: H)) := fun b hf hlt => ⟨hb.block b hlt, hf.1, (hF b hf.2 hlt).2⟩
  have hK := hkeeps_new (φ := φ) (v := v) (C := C) hn
  refine ⟨⟨h.sim.below.trans (Below.onto hb h.sim.below.size), ?_, ?_, ?_, h.sim.keep⟩, ?_, h.defers, h.size, ?_⟩
  · intro i D hi
    rw [hget_cons] at hi
    split at hi
    · rename_i e; subst e; cases hi; exact hg
    · rename_i e
      exact (h.sim.good i D hi).keep hb.size hF hG hK (fun _ => by simp [upd, Ne.symm e]) (fun hd b hbk => hb.block b (h.sim.block_lt ⟨D, hi, hd⟩ hbk))
  · intro i b hi hbk
    rcases live i hi b hbk with ⟨_, h1⟩ | ⟨_, h1, h2⟩
    · exact Base.new' h.sim.below.size (by omega)
    · exact h.sim.fresh i b h1 h2
  · intro i j b hi hj hbi hbj
    rcases live i hi b hbi with ⟨h1, h2⟩ | ⟨h1, h2, h3⟩ <;> rcases live j hj b hbj with ⟨k1, k2⟩ | ⟨k1, k2, k3⟩
    · omega
    · have := h.sim.block_lt k2 k3; omega
    · have := h.sim.block_lt h2 h3; omega
    · exact h.sim.inj i j b h2 k2 h3 k3
  · intro s
    exact Rel.keep hb.size hF hG hK _ _ (h.env s)
  · exact RelL.keep hb.size hF hG hK _ _ h.gh

theorem hkeeps_set {id : Nat} {C D : Cont} (hi : hget H id = some C) (hsame : (∀ e t l, D = .row e t l → ∃ l0, C = .row e t l0 ∧ l0.length = l.length) ∧ (∀ cs, D = .box cs → ∃ cs0, C = .box cs0)) :
    HKeeps φ φ H ((id, D) :: H) where
  there := fun i hi => by rw [hget_cons]; split <;> simp_all
  row := fun i e t l _ h => by
    rw [hget_cons] at h
    split at h
    · rename_i e'; subst e'
      simp only [Option.some.injEq] at h
      obtain ⟨l0, h1, h2⟩ := hsame.1 e t l h
      exact ⟨l0, by rw [hi, h1], h2, rfl⟩
    · exact ⟨l, h, rfl, rfl⟩
  box := fun i cs _ h => by
    rw [hget_cons] at h
    split at h
    · rename_i e'; subst e'
      simp only [Option.some.injEq] at h
      obtain ⟨cs0, h1⟩ := hsame.2 cs h
      exact ⟨cs0, by rw [hi, h1], rfl⟩
    · exact ⟨cs, h, rfl⟩

/-- A part of the heap is written, in place; or it is given up. -/
theorem St.set (h : St N w0 E H φ a w) {id : Nat} {C D : Cont} (hi : hget H id = some C) (hC : C ≠ .dead)
    (hsame : (∀ e t l, D = .row e t l → ∃ l0, C = .row e t l0 ∧ l0.length = l.length) ∧ (∀ cs, D = .box cs → ∃ cs0, C = .box cs0))
    (hsz : w.heap.size ≤ w'.heap.size) (hb : Onto w0 w w') (hblock : ∀ b, b < w.heap.size → blk (φ id) ≠ some b → w'.heap[b]? = w.heap[b]?)
    (hg : GoodC w' (Fr φ ((id, D) :: H)) (Gr w0 φ ((id, D) :: H)) φ ((id, D) :: H) id D) : St N w0 E ((id, D) :: H) φ a w' := by
  have hlv : hlive H id := ⟨C, hi, hC⟩
  have sub : ∀ i, hlive ((id, D) :: H) i → hlive H i := by
    intro i h'
    rcases hlive_cons h' with rfl | h'
    · exact hlv
    · exact h'
  have hF : Keeps w w' (Fr φ H) (Fr φ ((id, D) :: H)) := fun b hf hlt => ⟨hblock b hlt (hf id hlv), fun i h' => hf i (sub i h')⟩
  have hG : Keeps w w' (Gr w0 φ H) (Gr w0 φ ((id, D) :: H)) := fun b hf hlt => ⟨hblock b hlt (hf.2 id hlv), hf.1, (hF b hf.2 hlt).2⟩
  have hK := hkeeps_set (φ := φ) hi hsame
  refine ⟨⟨h.sim.below.trans hb, ?_, ?_, ?_, h.sim.keep⟩, ?_, h.defers, h.size, ?_⟩
  · intro i D' hi'
    rw [hget_cons] at hi'
    split at hi'
    · rename_i e; subst e; cases hi'; exact hg
    · rename_i e
      exact (h.sim.good i D' hi').keep hsz hF hG hK (fun _ => rfl) (fun hd b hbk => hblock b (h.sim.block_lt ⟨D', hi', hd⟩ hbk) (fun hbk' => e (h.sim.inj id i b hlv ⟨D', hi', hd⟩ hbk' hbk)))
  · exact fun i b h1 h2 => h.sim.fresh i b (sub i h1) h2
  · exact fun i j b h1 h2 h3 h4 => h.sim.inj i j b (sub i h1) (sub j h2) h3 h4
  · exact fun s => Rel.keep hsz hF hG hK _ _ (h.env s)
  · exact RelL.keep hsz hF hG hK _ _ h.gh
end heap
end Go.V

namespace Go.V
open Go.RowKit

def zeroS : (t : STy) → t.S
  | .int _ => (0 : Int)
  | .bool => false
  | .flt _ => (0 : Nat)
  | .cpx _ => ((0, 0) : Nat × Nat)
  | .str => ByteArray.empty
  | .sl e => ([] : List e.S)
  | .pair a b => (zeroS a, zeroS b)

theorem zty_length (t : STy) : (zty t).length = t.n := by
  induction t <;> simp_all [zty, STy.n]

theorem zeroS_rel {w : World} {F : Nat → Prop} : ∀ (t : STy) (us : List Value), us.map zcOf = zty t → RdC w F t (zeroS t) us := by
  have f0 : ∀ k, FV k 0 0 := fun k => cOk_FV (by cases k <;> rfl)
  have one : ∀ {us : List Value} {z : ZV}, us.map zcOf = [z] → ∃ u, us = [u] ∧ zcOf u = z := by
    intro us z h
    cases us with
    | nil => cases h
    | cons u us =>
      cases us with
      | nil => simp at h; exact ⟨u, rfl, h⟩
      | cons _ _ => simp at h
  intro t
  induction t with
  | int k =>
    intro us h
    obtain ⟨u, rfl, hu⟩ := one h
    cases u <;> simp only [zcOf] at hu <;> (try split at hu) <;> (try cases hu)
    rename_i h0; subst h0; rfl
  | bool =>
    intro us h
    obtain ⟨u, rfl, hu⟩ := one h
    cases u <;> simp only [zcOf] at hu <;> (try split at hu) <;> (try cases hu)
    rename_i b h0; cases b <;> simp_all; rfl
  | flt k =>
    intro us h
    obtain ⟨u, rfl, hu⟩ := one h
    cases u <;> simp only [zcOf] at hu <;> (try split at hu) <;> (try cases hu)
    rename_i h0; subst h0; exact ⟨0, rfl, f0 _⟩
  | cpx k =>
    intro us h
    obtain ⟨u, rfl, hu⟩ := one h
    cases u <;> simp only [zcOf] at hu <;> (try split at hu) <;> (try cases hu)
    rename_i h0; obtain ⟨rfl, rfl⟩ := h0; exact ⟨0, 0, rfl, f0 _, f0 _⟩
  | str =>
    intro us h
    obtain ⟨u, rfl, hu⟩ := one h
    cases u <;> simp only [zcOf] at hu <;> (try split at hu) <;> (try cases hu)
    rename_i h0; subst h0; rfl
  | sl e ih =>
    intro us h
    obtain ⟨u, rfl, hu⟩ := one h
    cases u <;> simp only [zcOf] at hu <;> (try split at hu) <;> (try cases hu)
    rename_i a n c h0; obtain ⟨_, rfl, rfl⟩ := h0; exact ⟨_, rfl, .inl ⟨rfl, a, 0, rfl⟩⟩
  | pair a b iha ihb =>
    intro us h
    simp only [zty] at h
    refine ⟨us.take a.n, us.drop a.n, by simp, iha _ ?_, ihb _ ?_⟩
    · have := congrArg (List.take a.n) h
      rw [← List.map_take, List.take_left' (zty_length a)] at this; exact this
    · have := congrArg (List.drop a.n) h
      rw [← List.map_drop, List.drop_left' (zty_length a)] at this; exact this

def hnext : Heap → Nat
  | [] => 0
  | (i, _) :: H => Nat.max (i + 1) (hnext H)

def hfresh (H : Heap) (K : Nat → Prop) : Prop :=
  match hget H (hnext H) with
  | none => K (hnext H)
  | some _ => False

/-- Elements out of the parts of a literal, in order. -/
def decL (t : STy) (E : Env) (H : Heap) : Nat → List (Nat × Operand) → Option (List t.S)
  | _, [] => some []
  | i, (j, x) :: ps => bif Nat.beq i j then
      match cellsC H (avOf E x) with
      | some cs => match dec t cs, decL t E H (i + 1) ps with
        | some y, some l => bif Nat.beq cs.length t.n then some (y :: l) else none
        | _, _ => none
      | none => none
    else none

def STy.flat : STy → Bool
  | .sl _ => false
  | .pair a b => a.flat && b.flat
  | _ => true

/-- A slice's elements, as ones of a type; slices among them lie in new memory. -/
def listAV (t : STy) (H : Heap) (a : AV) : Option (List t.S) :=
  match a with
  | .sl true t' l => lcast t t' l
  | .sl false t' l => bif t'.flat then lcast t t' l else none
  | .own id => match hget H id with
    | some (.row _ t' l) => lcast t t' l
    | _ => none
  | .val (.slice none 0 0) => some []
  | _ => none

/-- A cell that may be stored. -/
def oneB (H : Heap) (a : AV) : Bool :=
  match a with
  | .tt | .ff | .flt _ _ | .cpx _ _ _ | .sl _ _ _ | .ptrR _ | .fn _ _ => true
  | .val (.agg _) => false
  | .val (.tuple _) => false
  | .val _ => true
  | .own id => match hget H id with
    | some (.row _ _ _) => true
    | _ => false
  | .ptrO id _ => match hget H id with
    | some (.box _) => true
    | _ => false
  | _ => false

def isOwn (own : List Nat) (d : Option Tmp) : Bool :=
  match d with
  | some d => own.any (Nat.beq d)
  | none => false

def wop (Γ : Tab) (own : List Nat) (E : Env) (H : Heap) (o : Oper) (K : AV → Heap → Prop) : Prop :=
  match o.op with
  | .alloc T => match tget Γ T with
    | some td => hfresh H fun n => K (.ptrO n 0) ((n, .box (td.z.map zav)) :: H)
    | none => False
  | .box _ x => match cellsC H (avOf E x) with
    | some cs => bif isOwn own o.dst then hfresh H fun n => K (.ptrO n 0) ((n, .box cs) :: H) else K (.ptrR cs) H
    | none => False
  | .buildSlice T k ps => match tget Γ T with
    | some td => match td.k with
      | .slice e t _ => match decL t E H 0 ps.toList with
        | some l => bif Nat.beq ps.toList.length k && Nat.ble k 1024 && Nat.ble t.n 64 then
            (bif isOwn own o.dst then hfresh H fun n => K (.own n) ((n, .row e t l) :: H) else K (.sl true t l) H)
          else False
        | none => False
      | _ => False
    | none => False
  | .makeSlice T n c => match tget Γ T, avOf E n, avOf E c with
    | some td, .val (.int _ m), .val (.int _ m') => match td.k with
      | .slice e t b => (m = m' ∧ 0 ≤ m ∧ m * b ≤ 140737488355328 ∧ m ≤ 140737488355328) ∧ hfresh H fun n => K (.own n) ((n, .row e t (List.replicate m.toNat (zeroS t))) :: H)
      | _ => False
    | _, _, _ => False
  | .call ⟨.builtin .append, ⟨[x, y]⟩, ⟨[T, T']⟩⟩ => match tget Γ T with
    | some td => match td.k with
      | .slice e t b =>
        bif Nat.beq T T' then
        match listAV t H (avOf E y) with
        | some l' => match avOf E x with
          | .own id => match hget H id with
            | some (.row e' t' l) => bif Nat.beq e e' then (match lcast t t' l with
              | some l => ((l.length + l'.length) * b ≤ 140737488355328 ∧ l.length + l'.length ≤ 140737488355328) ∧ hfresh H fun n => K (.own n) ((n, .row e t (l ++ l')) :: (id, .dead) :: H)
              | none => False) else False
            | _ => False
          | .val (.slice none 0 0) => (l'.length * b ≤ 140737488355328 ∧ l'.length ≤ 140737488355328) ∧ hfresh H fun n => K (.own n) ((n, .row e t l') :: H)
          | _ => False
        | none => False
        else False
      | _ => False
    | none => False
  | .store T p x => match tget Γ T, cellsC H (avOf E x) with
    | some td, some cs =>
      bif Nat.beq cs.length td.n && cs.all (oneB H) then
      match avOf E p with
      | .ptrO id off => match hget H id with
        | some (.box ds) => bif Nat.ble (off + cs.length) ds.length then K .junk ((id, .box (ds.take off ++ cs ++ ds.drop (off + cs.length))) :: H) else False
        | _ => False
      | .ptrE id i off => match hget H id with
        | some (.row e t l) => ∃ x0, l[i]? = some x0 ∧
          (match dec t (((t.enc true x0).take off) ++ cs ++ ((t.enc true x0).drop (off + cs.length))) with
          | some y => bif Nat.ble (off + cs.length) t.n then K .junk ((id, .row e t (l.set i y)) :: H) else False
          | none => False)
        | _ => False
      | _ => False
      else False
    | _, _ => False
  | op => aop Γ E H op fun av => K av H

theorem DoesV.mono {P : Program} {o : Oper} {a : Act} {w : World} {R R' : Value → World → Prop} (h : DoesV P o a w R) (hr : ∀ v w', R v w' → R' v w') : DoesV P o a w R' := by
  unfold DoesV at *
  split at h
  · exact hr _ _ h
  · exact hr _ _ h
  · exact h.mono fun e w'' ⟨v, he, hR⟩ => ⟨v, he, hr _ _ hR⟩
  · exact h.elim

section sound
variable {P : Program} {Γ : Tab} {N : Nat} {w0 : Base} {w : World} {E : Env} {H : Heap} {φ : Nat → Value} {a : Act} {K : AV → Heap → Prop} {own : List Nat}

/-- What an operation leaves: a value that is told, in a state that is told. -/
def Left (N : Nat) (w0 : Base) (E : Env) (a : Act) (K : AV → Heap → Prop) (v : Value) (w' : World) : Prop :=
  ∃ av H' φ', K av H' ∧ St N w0 E H' φ' a w' ∧ Rel w' (Fr φ' H') (Gr w0 φ' H') φ' H' av v

theorem left_ext {o : Oper} {av : AV} (hst : St N w0 E H φ a w) (hK : K av H) (h : OkOp P E H o av) : DoesV P o a w (Left N w0 E a K) :=
  (h w0 w φ a hst.sim (fun x _ => hst.opd x)).mono fun _ _ ⟨hb, hr⟩ => ⟨av, H, φ, hK, hst.ext hb, hr⟩

theorem fresh_none {K : Nat → Prop} (h : hfresh H K) : ∃ n, hget H n = none ∧ K n := by
  unfold hfresh at h
  split at h
  · rename_i e; exact ⟨_, e, h⟩
  · exact h.elim

/-- A new box. -/
theorem left_box {o : Oper} {cs : List AV} {T : TypeId} {v : Value} (hst : St N w0 E H φ a w) {n : Nat} (hn : hget H n = none) (hK : K (.ptrO n 0) ((n, .box cs) :: H))
    (hrun : (execOp a.eval o).run P w = .ok (.value (.pointer (some ⟨w.heap.size, 0, none⟩))) (w.alloc (.cells v.cells T)))
    (hcs : RelL w (Fr φ H) (Gr w0 φ H) φ H cs v.cells.toList) : DoesV P o a w (Left N w0 E a K) := by
  have hb : Below w.heap.size w (w.alloc (.cells v.cells T)) := (Below.refl _ _).alloc (Nat.le_refl _) _
  have hblk : ∀ b, blk (Value.pointer (some ⟨w.heap.size, 0, none⟩)) = some b → w.heap.size ≤ b := fun b h => by simp [blk] at h; omega
  refine DoesV.value hrun ⟨_, _, _, hK, hst.new hn hb hblk ?_, ?_⟩
  · refine ⟨w.heap.size, T, v.cells.toList, by simp [upd], ?_, ?_⟩
    · show (w.heap.push _)[w.heap.size]? = _
      simp
    · refine RelL.keep hb.size ?_ ?_ (hkeeps_new hn) _ _ hcs
      · intro b hf hlt
        refine ⟨hb.block b hlt, fun i hi hbk => ?_⟩
        rcases hlive_cons hi with rfl | hl
        · simp [upd, blk] at hbk; omega
        · have hne : i ≠ n := by rintro rfl; obtain ⟨D, h1, _⟩ := hl; rw [hn] at h1; cases h1
          exact hf i hl (by simpa [upd, hne] using hbk)
      · intro b hf hlt
        refine ⟨hb.block b hlt, hf.1, fun i hi hbk => ?_⟩
        rcases hlive_cons hi with rfl | hl
        · simp [upd, blk] at hbk; omega
        · have hne : i ≠ n := by rintro rfl; obtain ⟨D, h1, _⟩ := hl; rw [hn] at h1; cases h1
          exact hf.2 i hl (by simpa [upd, hne] using hbk)
  · simp only [Rel, hget_cons, if_true]
    exact ⟨rfl, fun cs' _ => ⟨w.heap.size, by simp [upd], rfl⟩⟩

/-- New rows keep what nested slices lie in. -/
theorem gr_new {n : Nat} {C : Cont} {v : Value} (hn : hget H n = none) (hv : ∀ b, blk v = some b → w.heap.size ≤ b) {w' : World} (hb : Below w.heap.size w w') :
    Keeps w w' (Gr w0 φ H) (Gr w0 (upd φ n v) ((n, C) :: H)) := by
  intro b hf hlt
  refine ⟨hb.block b hlt, hf.1, fun i hi hbk => ?_⟩
  rcases hlive_cons hi with rfl | hl
  · have := hv b (by simpa [upd] using hbk); omega
  · have hne : i ≠ n := by rintro rfl; obtain ⟨D, h1, _⟩ := hl; rw [hn] at h1; cases h1
    exact hf.2 i hl (by simpa [upd, hne] using hbk)

/-- A new row. -/
theorem left_row {o : Oper} {e : TypeId} {t : STy} {l : List t.S} {vs : Array Value} (hst : St N w0 E H φ a w) {n : Nat} (hn : hget H n = none) (hK : K (.own n) ((n, .row e t l) :: H)) {w1 : World}
    (hw : w1.heap = w.heap) (hw2 : w1.os = w.os ∧ w1.tape = w.tape ∧ w1.output = w.output) {cap : Nat}
    (hrun : (execOp a.eval o).run P w = .ok (.value (.slice (some ⟨w.heap.size, 0, none⟩) l.length cap)) (w1.alloc (.cells vs e))) (hc : l.length ≤ cap) (hcm : cap ≤ maxLen) (hsz : vs.size = cap * t.n)
    (hcs : ∀ i x, l[i]? = some x → ∃ us, us.length = t.n ∧ RdC w (Gr w0 φ H) t x us ∧ ∀ j u, us[j]? = some u → vs[i * t.n + j]? = some u) : DoesV P o a w (Left N w0 E a K) := by
  have hb0 : Below w.heap.size w w1 := ⟨hw2.1, hw2.2.1, hw2.2.2, by rw [hw]; exact Nat.le_refl _, fun k _ => by rw [hw]⟩
  have hb : Below w.heap.size w (w1.alloc (.cells vs e)) := hb0.alloc (by rw [hw]; exact Nat.le_refl _) _
  have hblk : ∀ b, blk (Value.slice (some ⟨w.heap.size, 0, none⟩) l.length cap) = some b → w.heap.size ≤ b := fun b h => by simp [blk] at h; omega
  refine DoesV.value hrun ⟨_, _, _, hK, hst.new (v := .slice (some ⟨w.heap.size, 0, none⟩) l.length cap) hn hb hblk ?_, ?_⟩
  · right
    refine ⟨w.heap.size, cap, vs, by simp [upd], ?_, hc, hcm, hsz, fun i x hx => ?_⟩
    · show (w1.heap.push _)[w.heap.size]? = _
      rw [hw]; simp
    · obtain ⟨us, h1, h2, h3⟩ := hcs i x hx
      exact ⟨us, h1, RdC.keep hb.size (gr_new hn hblk hb) t x us h2, h3⟩
  · simp only [Rel, hget_cons, if_true]
    exact ⟨rfl, fun e' t' l' _ => by simp [upd]⟩

end sound
end Go.V

namespace Go.V
open Go.RowKit
section sound
variable {P : Program} {Γ : Tab} {N : Nat} {w0 : Base} {w : World} {E : Env} {H : Heap} {φ : Nat → Value} {a : Act} {K : AV → Heap → Prop} {own : List Nat}

theorem kB_slice {P : Program} {e : Nat} {t : STy} {b : Nat} {u : TypeDesc} (h : kB P (.slice e t b) u = true) :
    u = .slice e ∧ ∃ i z, P.info? e = some i ∧ i.size = t.n ∧ i.bytes = b ∧ i.zero = some z ∧ z.cells.toList.map zcOf = zty t := by
  cases u <;> simp [kB] at h
  obtain ⟨rfl, h⟩ := h
  refine ⟨rfl, ?_⟩
  cases hi : P.info? e with
  | none => rw [hi] at h; simp at h
  | some i =>
    rw [hi] at h
    simp only [Bool.and_eq_true, decide_eq_true_eq] at h
    cases hz : i.zero with
    | none => rw [hz] at h; simp at h
    | some z => rw [hz] at h; simp at h; exact ⟨i, z, rfl, h.1.1, h.1.2, hz, by simpa using h.2⟩

theorem fill_list {t : STy} {ρ : Operand → Value} (hs : Sim w0 w φ H) (hr : ∀ x, Rel w (Fr φ H) (Gr w0 φ H) φ H (avOf E x) (ρ x)) :
    ∀ (ps : List (Nat × Operand)) (i : Nat) (l : List t.S) (cur : Array Value), decL t E H i ps = some l → (i + ps.length) * t.n ≤ cur.size →
      ∃ cells', Instr.fill (fun i => some (i * t.n, t.n)) cur (ps.map fun p => (p.1, ρ p.2)) = some cells' ∧ cells'.size = cur.size ∧ l.length = ps.length ∧
        (∀ q, q < i * t.n → cells'[q]? = cur[q]?) ∧
        ∀ j y, l[j]? = some y → ∃ us, us.length = t.n ∧ RdC w (Gr w0 φ H) t y us ∧ ∀ q u, us[q]? = some u → cells'[(i + j) * t.n + q]? = some u
  | [], i, l, cur, h, _ => by
    simp only [decL, Option.some.injEq] at h
    subst h
    exact ⟨cur, rfl, rfl, rfl, fun _ _ => rfl, fun j y hj => by simp at hj⟩
  | (j, x) :: ps, i, l, cur, h, hc => by
    simp only [decL] at h
    cases e1 : Nat.beq i j
    · rw [e1] at h; cases h
    rw [e1] at h
    have := Nat.eq_of_beq_eq_true e1
    subst this
    simp only [cond_true] at h
    split at h
    case h_2 => cases h
    rename_i cs hcs
    split at h
    case h_2 => cases h
    rename_i y l' hy hl'
    cases e2 : Nat.beq cs.length t.n
    · rw [e2] at h; cases h
    rw [e2] at h
    simp only [cond_true, Option.some.injEq] at h
    subst h
    have hlen := Nat.eq_of_beq_eq_true e2
    have hx := cellsC_rel hs hcs (hr x)
    have hrd := dec_rel t cs y _ hy hx
    have hvl : (ρ x).cells.size = t.n := by rw [← Array.length_toList, hx.length, hlen]
    simp only [List.length_cons] at hc
    have hsz : i * t.n + t.n ≤ cur.size := by
      have : (i + 1) * t.n ≤ (i + (ps.length + 1)) * t.n := Nat.mul_le_mul_right _ (by omega)
      rw [Nat.add_mul, Nat.one_mul] at this; omega
    have hfold := fold_set (i * t.n) (ρ x).cells.toList 0 cur (by rw [Array.length_toList, hvl]; omega)
    have hcur1 : ((ρ x).cells.zipIdx.foldl (fun cs (p : Value × Nat) => cs.setIfInBounds (i * t.n + p.2) p.1) cur).toList = cur.toList.take (i * t.n) ++ (ρ x).cells.toList ++ cur.toList.drop (i * t.n + t.n) := by
      rw [← Array.foldl_toList, Array.toList_zipIdx]
      rw [hfold]; simp only [Nat.add_zero, Array.length_toList, hvl]
    generalize hg : (ρ x).cells.zipIdx.foldl (fun cs (p : Value × Nat) => cs.setIfInBounds (i * t.n + p.2) p.1) cur = cur1 at hcur1
    have hs1 : cur1.size = cur.size := by
      rw [← Array.length_toList, hcur1]; simp [hvl]; omega
    obtain ⟨cells', f1, f2, f3, f4, f5⟩ := fill_list (t := t) hs hr ps (i + 1) l' cur1 hl' (by rw [hs1]; rw [show i + 1 + ps.length = i + (ps.length + 1) by omega]; exact hc)
    have hget : ∀ q : Nat, cur1[q]? = cur1.toList[q]? := fun q => Array.getElem?_toList.symm
    refine ⟨cells', ?_, by rw [f2, hs1], by simp [f3], ?_, ?_⟩
    · simp only [List.map_cons, Instr.fill]
      have hcond : ((decide ((ρ x).cells.size ≠ t.n)) || decide (i * t.n + (ρ x).cells.size > cur.size)) = false := by
        simp [hvl]; omega
      rw [if_neg (by rw [hcond]; exact Bool.false_ne_true)]
      rw [show (Array.foldl (fun cs x => match x with | (c, j) => cs.setIfInBounds (i * t.n + j) c) cur (ρ x).cells.zipIdx) = cur1 from hg]
      exact f1
    · intro q hq
      rw [f4 q (by rw [Nat.add_mul]; omega), hget, hcur1]
      rw [List.append_assoc, List.getElem?_append_left (by simp; omega), List.getElem?_take_of_lt hq]; simp
    · intro j z hz
      cases j with
      | zero =>
        simp at hz; subst hz
        refine ⟨(ρ x).cells.toList, by rw [Array.length_toList, hvl], hrd, fun q u hu => ?_⟩
        have hq : q < t.n := by
          rcases Nat.lt_or_ge q t.n with h | h
          · exact h
          · rw [List.getElem?_eq_none (by rw [Array.length_toList, hvl]; exact h)] at hu; cases hu
        rw [Nat.add_zero, f4 (i * t.n + q) (by rw [Nat.add_mul]; omega), hget, hcur1]
        have hl0 : (cur.toList.take (i * t.n)).length = i * t.n := by simp; omega
        rw [List.append_assoc, List.getElem?_append_right (by rw [hl0]; omega), hl0, Nat.add_sub_cancel_left, List.getElem?_append_left (by rw [Array.length_toList, hvl]; exact hq)]
        exact hu
      | succ j =>
        obtain ⟨us, g1, g2, g3⟩ := f5 j z (by simpa using hz)
        exact ⟨us, g1, g2, fun q u hu => by rw [show i + (j + 1) = i + 1 + j by omega]; exact g3 q u hu⟩

theorem buildSlice_run {T e k : Nat} {ps : Array (Nat × Operand)} {d : Option Tmp} {ty : TypeId} {pos : String} {af : Array Edge} {g : Option (Nat × Bool)} {t : STy} {l : List t.S} {td : TD} {b : Nat}
    (hΓ : TabOK P Γ) (htd : tget Γ T = some td) (hk : td.k = .slice e t b) (hst : St N w0 E H φ a w) (hl : decL t E H 0 ps.toList = some l) (hlen : ps.toList.length = k) (hk2 : k ≤ 1024) (hn2 : t.n ≤ 64) :
    ∃ vs, (execOp a.eval ⟨d, .buildSlice T k ps, ty, pos, af, g⟩).run P w = .ok (.value (.slice (some ⟨w.heap.size, 0, none⟩) l.length k)) (w.alloc (.cells vs e)) ∧ l.length = k ∧ vs.size = k * t.n ∧
      ∀ i x, l[i]? = some x → ∃ us, us.length = t.n ∧ RdC w (Gr w0 φ H) t x us ∧ ∀ j u, us[j]? = some u → vs[i * t.n + j]? = some u := by
  obtain ⟨u, hu, _, hkk⟩ := (hΓ.ok htd).und
  rw [hk] at hkk
  obtain ⟨rfl, ie, z, hie, hsz, _, hz, hzz⟩ := kB_slice hkk
  have hzn : z.cells.size = t.n := by
    have := congrArg List.length hzz
    simpa [zty_length] using this
  have hpos := t.n_pos
  obtain ⟨cells', f1, f2, f3, f4, f5⟩ := fill_list (t := t) (ρ := a.eval) hst.sim (fun x => hst.opd x) ps.toList 0 l
    ((Array.range (k * t.n)).map (z.cells[· % z.cells.size]!)) hl (by simp [← hlen])
  refine ⟨cells', ?_, by rw [f3, hlen], by rw [f2]; simp, fun i x hx => ?_⟩
  · have hsize : (sizeOf e).run P w = .ok t.n w := by simp [sizeOf, typeInfo, program, Sem.run, hie, hsz]
    have hmul : k * t.n ≤ 1024 * 64 := Nat.mul_le_mul hk2 hn2
    have hnot : ¬ (k * t.n > 2 ^ 24) := by
      have : (2 : Nat) ^ 24 = 16777216 := by decide
      omega
    have hrows : Instr.fill (fun i => some (i * t.n, t.n)) ((Array.range (k * t.n)).map (z.cells[· % z.cells.size]!)) (ps.map fun x => (x.1, a.eval x.2)).toList = some cells' := by
      rw [Array.toList_map]; exact f1
    simp only [execOp, Instr.buildSlice, Sem.run_bind, run_underlying hu, Result.andThen_ok, hsize, hnot, if_false]
    rw [show (Array.map (fun (x : Nat × Operand) => match x with | (i, x) => (i, a.eval x)) ps).toList = (ps.map fun x => (x.1, a.eval x.2)).toList from rfl]
    by_cases h0 : k * t.n = 0
    · have hrows' : Instr.fill (fun i => some (i * t.n, t.n)) ((Array.range (k * t.n)).map ((#[] : Array Value)[· % (#[] : Array Value).size]!)) (ps.map fun x => (x.1, a.eval x.2)).toList = some cells' := by
        rw [← hrows, h0, show Array.range 0 = #[] from rfl]; simp
      simp only [h0, if_true, Sem.run_bind, Sem.run_pure, Result.andThen_ok]
      rw [h0] at hrows'
      rw [hrows']
      simp only [newRow, newObj, Sem.run_bind, Sem.run_pure, Sem.run, Result.andThen_ok, f3, hlen]
      rfl
    · simp only [h0, if_false, Sem.run_bind, Sem.run_pure, Result.andThen_ok, zeroValue, run_typeInfo w hie, hz]
      rw [hrows]
      simp only [newRow, newObj, Sem.run_bind, Sem.run_pure, Sem.run, Result.andThen_ok, f3, hlen]
      rfl
  · obtain ⟨us, g1, g2, g3⟩ := f5 i x hx
    exact ⟨us, g1, g2, fun q u hq => by have := g3 q u hq; rwa [Nat.zero_add] at this⟩

theorem wop_buildSlice (hΓ : TabOK P Γ) (hst : St N w0 E H φ a w) {T k : Nat} {ps : Array (Nat × Operand)} {d : Option Tmp} {ty : TypeId} {pos : String} {af : Array Edge} {g : Option (Nat × Bool)}
    (h : wop Γ own E H ⟨d, .buildSlice T k ps, ty, pos, af, g⟩ K) : DoesV P ⟨d, .buildSlice T k ps, ty, pos, af, g⟩ a w (Left N w0 E a K) := by
  unfold wop at h
  simp only at h
  split at h
  case h_2 => exact h.elim
  rename_i td htd
  split at h
  case h_2 => exact h.elim
  rename_i e t b hk
  split at h
  case h_2 => exact h.elim
  rename_i l hl
  cases hc : (Nat.beq ps.toList.length k && Nat.ble k 1024 && Nat.ble t.n 64)
  · rw [hc] at h; exact h.elim
  rw [hc] at h
  simp only [cond_true] at h
  simp only [Bool.and_eq_true] at hc
  obtain ⟨⟨c1, c2⟩, c3⟩ := hc
  obtain ⟨vs, hrun, r1, r2, r3⟩ := buildSlice_run (d := d) (ty := ty) (pos := pos) (af := af) (g := g) hΓ htd hk hst hl (Nat.eq_of_beq_eq_true c1) (Nat.le_of_ble_eq_true c2) (Nat.le_of_ble_eq_true c3)
  have hk1024 := Nat.le_of_ble_eq_true c2
  cases ho : isOwn own d
  · rw [ho] at h
    simp only [cond_false] at h
    have hb : Below w.heap.size w (w.alloc (.cells vs e)) := (Below.refl _ _).alloc (Nat.le_refl _) _
    refine DoesV.value hrun ⟨_, _, _, h, hst.ext hb, ?_⟩
    simp only [Rel, cond_true]
    cases l with
    | nil => left; exact ⟨rfl, _, _, rfl⟩
    | cons x l =>
      right
      refine ⟨w.heap.size, 0, k, rfl, by rw [r1]; exact Nat.le_refl _, ⟨w0.new _ hst.sim.below.size, fun i hi hbk => ?_⟩, ?_, fun i y hy => ?_⟩
      · have := hst.sim.block_lt hi hbk; omega
      · show w.heap.size < (w.heap.push _).size
        simp
      · obtain ⟨us, g1, g2, g3⟩ := r3 i y hy
        refine ⟨us, g1, RdC.keep hb.size (keeps_below _ hb) t y us g2, fun j u hj => ?_⟩
        have hcell : (w.alloc (.cells vs e)).heap[w.heap.size]? = some (.cells vs e) := by
          show (w.heap.push _)[w.heap.size]? = _
          simp
        simp only [World.cell?, hcell, Nat.zero_add]
        simpa using g3 j u hj
  · rw [ho] at h
    simp only [cond_true] at h
    obtain ⟨n, hn, hK⟩ := fresh_none h
    exact left_row hst hn hK rfl ⟨rfl, rfl, rfl⟩ (cap := k) hrun (by omega) (by unfold maxLen; omega) r2 r3

theorem wop_makeSlice (hΓ : TabOK P Γ) (hst : St N w0 E H φ a w) {T : Nat} {x y : Operand} {d : Option Tmp} {ty : TypeId} {pos : String} {af : Array Edge} {g : Option (Nat × Bool)}
    (h : wop Γ own E H ⟨d, .makeSlice T x y, ty, pos, af, g⟩ K) : DoesV P ⟨d, .makeSlice T x y, ty, pos, af, g⟩ a w (Left N w0 E a K) := by
  unfold wop at h
  simp only at h
  split at h
  case h_2 => exact h.elim
  rename_i td k1 m k2 m' htd e1 e2
  split at h
  case h_2 => exact h.elim
  rename_i e t b hk
  obtain ⟨⟨rfl, h0, h1, h2⟩, h⟩ := h
  obtain ⟨n, hn, hK⟩ := fresh_none h
  obtain ⟨u, hu, _, hkk⟩ := (hΓ.ok htd).und
  rw [hk] at hkk
  obtain ⟨rfl, ie, z, hie, hsz, hby, hz, hzz⟩ := kB_slice hkk
  have hzn : z.cells.size = t.n := by
    have := congrArg List.length hzz
    simpa [zty_length] using this
  have hpos := t.n_pos
  have hx := hst.opd x; have hy := hst.opd y
  rw [e1] at hx; rw [e2] at hy; simp only [Rel] at hx hy
  have hw : IntKind.i64.wrap m = m := IntWalk.i64_in _ ⟨by omega, by omega⟩
  have hrun : (execOp a.eval ⟨d, .makeSlice T x y, ty, pos, af, g⟩).run P w = .ok (.value (.slice (some ⟨w.heap.size, 0, none⟩) m.toNat m.toNat)) (w.alloc (.cells ((Array.range (m.toNat * t.n)).map (z.cells[· % z.cells.size]!)) e)) := by
    have hnl : ¬ ((decide (m < 0) || decide ((ie.bytes : Int) * m > 2 ^ 48)) = true) := by
      simp only [Bool.or_eq_true, decide_eq_true_eq, not_or]
      refine ⟨by omega, ?_⟩
      rw [hby, Int.mul_comm]
      have : (2 : Int) ^ 48 = 281474976710656 := by decide
      omega
    have hsize : (sizeOf e).run P w = .ok t.n w := by simp [sizeOf, typeInfo, program, Sem.run, hie, hsz]
    have hroom : (askRoom (m.toNat * ie.bytes)).run P w = .ok () w := by
      unfold askRoom; split <;> simp [mark, Sem.run]
    have hno : ¬ ((decide (m < 0) || decide ((ie.bytes : Int) * m > 2 ^ 48) || decide (m < 0) || decide (m > m)) = true) := by
      simp only [Bool.or_eq_true, decide_eq_true_eq, not_or] at hnl ⊢
      exact ⟨⟨hnl, by omega⟩, by omega⟩
    simp only [execOp, hx, hy, Instr.makeSlice, Sem.run_bind, run_underlying hu, Result.andThen_ok, asInt, asIntOf, Sem.run_pure, run_typeInfo w hie, hw]
    rw [if_neg hno]
    simp only [Sem.run_bind, hroom, Result.andThen_ok, hsize]
    by_cases h0 : m.toNat * t.n = 0
    · have e0 : ∀ f : Nat → Value, Array.map f (Array.range 0) = #[] := fun f => by rw [show Array.range 0 = #[] from rfl]; simp
      simp only [h0, if_true, Sem.run_bind, Sem.run_pure, Result.andThen_ok, newRow, newObj, Sem.run, e0]
      rfl
    · simp only [h0, if_false, Sem.run_bind, Sem.run_pure, Result.andThen_ok, zeroValue, run_typeInfo w hie, hz, newRow, newObj, Sem.run]
      rfl
  have hll : (List.replicate m.toNat (zeroS t)).length = m.toNat := by simp
  refine left_row hst hn hK rfl ⟨rfl, rfl, rfl⟩ (cap := m.toNat) (by rw [hll]; exact hrun) (by rw [hll]; exact Nat.le_refl _) (by unfold maxLen; omega) (by simp) (fun i s hs => ?_)
  have hi : i < m.toNat := by
    rcases Nat.lt_or_ge i m.toNat with h | h
    · exact h
    · rw [List.getElem?_eq_none (by rw [hll]; exact h)] at hs; cases hs
  have hs' : s = zeroS t := by
    rw [List.getElem?_replicate] at hs; simp [hi] at hs; exact hs.symm
  subst hs'
  refine ⟨z.cells.toList, by rw [Array.length_toList, hzn], zeroS_rel t _ hzz, fun j u hj => ?_⟩
  have hjn : j < t.n := by
    rcases Nat.lt_or_ge j t.n with h | h
    · exact h
    · rw [List.getElem?_eq_none (by rw [Array.length_toList, hzn]; exact h)] at hj; cases hj
  have hlt : i * t.n + j < m.toNat * t.n := by
    have : (i + 1) * t.n ≤ m.toNat * t.n := Nat.mul_le_mul_right _ (by omega)
    rw [Nat.add_mul, Nat.one_mul] at this; omega
  have hmod : (i * t.n + j) % z.cells.size = j := by
    rw [hzn, Nat.mul_comm, Nat.mul_add_mod, Nat.mod_eq_of_lt hjn]
  rw [Array.getElem?_map, Array.getElem?_range, if_pos hlt]
  simp only [Option.map_some, hmod]
  have hj' : z.cells[j]? = some u := by simpa using hj
  rw [getElem!_def, hj']
end sound
end Go.V

namespace Go.V
open Go.RowKit
section sound
variable {P : Program} {Γ : Tab} {N : Nat} {w0 : Base} {w w' : World} {E : Env} {H : Heap} {φ : Nat → Value} {a : Act} {K : AV → Heap → Prop} {own : List Nat}

/-- A part of the heap goes on under a new name, written or moved. -/
theorem hlive_move {n id i : Nat} {D : Cont} (h : hlive ((n, D) :: (id, .dead) :: H) i) : i = n ∨ (i ≠ id ∧ hlive H i) := by
  rcases hlive_cons h with e | h
  · exact .inl e
  · obtain ⟨C, h1, h2⟩ := h
    rw [hget_cons] at h1
    split at h1
    · cases h1; exact absurd rfl h2
    · rename_i e; exact .inr ⟨Ne.symm e, C, h1, h2⟩

theorem keeps_move {n id : Nat} {C D : Cont} {v : Value} (hi : hget H id = some C) (hC : C ≠ .dead) (hn : hget H n = none)
    (hblock : ∀ b, b < w.heap.size → blk (φ id) ≠ some b → w'.heap[b]? = w.heap[b]?) (hv : ∀ b, blk v = some b → blk (φ id) = some b ∨ w.heap.size ≤ b) :
    Keeps w w' (Fr φ H) (Fr (upd φ n v) ((n, D) :: (id, .dead) :: H)) := by
  intro b hf hlt
  refine ⟨hblock b hlt (hf id ⟨C, hi, hC⟩), fun i hl hbk => ?_⟩
  rcases hlive_move hl with rfl | ⟨hne, hl⟩
  · rcases hv b (by simpa [upd] using hbk) with h | h
    · exact hf id ⟨C, hi, hC⟩ h
    · omega
  · have hne2 : i ≠ n := by intro he; obtain ⟨D, h1, _⟩ := hl; rw [he, hn] at h1; cases h1
    exact hf i hl (by simpa [upd, hne2] using hbk)

theorem hkeeps_move {n id : Nat} {C D : Cont} {v : Value} (_ : hget H id = some C) (hn : hget H n = none) : HKeeps φ (upd φ n v) H ((n, D) :: (id, .dead) :: H) where
  there := fun i hi => by rw [hget_cons, hget_cons]; (repeat' split) <;> simp_all
  row := fun i e t l h' h => by
    rw [hget_cons, hget_cons] at h
    split at h
    · rename_i e'; subst e'; rw [hn] at h'; cases h'
    · split at h
      · cases h
      · rename_i e1 e2; exact ⟨l, h, rfl, by simp [upd, Ne.symm e1]⟩
  box := fun i cs h' h => by
    rw [hget_cons, hget_cons] at h
    split at h
    · rename_i e'; subst e'; rw [hn] at h'; cases h'
    · split at h
      · cases h
      · rename_i e1 e2; exact ⟨cs, h, by simp [upd, Ne.symm e1]⟩

theorem St.move (h : St N w0 E H φ a w) {n id : Nat} {C D : Cont} {v : Value} (hi : hget H id = some C) (hC : C ≠ .dead) (hn : hget H n = none) (hsz : w.heap.size ≤ w'.heap.size)
    (hb : Onto w0 w w') (hblock : ∀ b, b < w.heap.size → blk (φ id) ≠ some b → w'.heap[b]? = w.heap[b]?) (hv : ∀ b, blk v = some b → blk (φ id) = some b ∨ w.heap.size ≤ b)
    (hg : GoodC w' (Fr (upd φ n v) ((n, D) :: (id, .dead) :: H)) (Gr w0 (upd φ n v) ((n, D) :: (id, .dead) :: H)) (upd φ n v) ((n, D) :: (id, .dead) :: H) n D) :
    St N w0 E ((n, D) :: (id, .dead) :: H) (upd φ n v) a w' := by
  have hlv : hlive H id := ⟨C, hi, hC⟩
  have hF := keeps_move (w := w) (w' := w') (φ := φ) (D := D) (v := v) hi hC hn hblock hv
  have hG : Keeps w w' (Gr w0 φ H) (Gr w0 (upd φ n v) ((n, D) :: (id, .dead) :: H)) := fun b hf hlt => ⟨(hF b hf.2 hlt).1, hf.1, (hF b hf.2 hlt).2⟩
  have hK := hkeeps_move (φ := φ) (D := D) (v := v) hi hn
  have live : ∀ i, hlive ((n, D) :: (id, .dead) :: H) i → ∀ b, blk (upd φ n v i) = some b → (i = n ∧ (blk (φ id) = some b ∨ w.heap.size ≤ b)) ∨ (i ≠ n ∧ i ≠ id ∧ hlive H i ∧ blk (φ i) = some b) := by
    intro i hl b hbk
    rcases hlive_move hl with rfl | ⟨hne, hl⟩
    · left; exact ⟨rfl, hv b (by simpa [upd] using hbk)⟩
    · have hne2 : i ≠ n := by intro he; obtain ⟨D, h1, _⟩ := hl; rw [he, hn] at h1; cases h1
      right; exact ⟨hne2, hne, hl, by simpa [upd, hne2] using hbk⟩
  refine ⟨⟨h.sim.below.trans hb, ?_, ?_, ?_, h.sim.keep⟩, ?_, h.defers, h.size, ?_⟩
  · intro i D' hi'
    rw [hget_cons] at hi'
    split at hi'
    · rename_i e; subst e; cases hi'; exact hg
    · rename_i e1
      rw [hget_cons] at hi'
      split at hi'
      · cases hi'; trivial
      · rename_i e2
        exact (h.sim.good i D' hi').keep hsz hF hG hK (fun _ => by simp [upd, Ne.symm e1]) (fun hd b hbk => hblock b (h.sim.block_lt ⟨D', hi', hd⟩ hbk) (fun hbk' => e2 (h.sim.inj id i b hlv ⟨D', hi', hd⟩ hbk' hbk)))
  · intro i b hl hbk
    rcases live i hl b hbk with ⟨_, h1 | h1⟩ | ⟨_, _, h1, h2⟩
    · exact h.sim.fresh id b hlv h1
    · exact Base.new' h.sim.below.size (by omega)
    · exact h.sim.fresh i b h1 h2
  · intro i j b hl hl' hbi hbj
    rcases live i hl b hbi with ⟨h1, h2⟩ | ⟨h1, h2, h3, h4⟩ <;> rcases live j hl' b hbj with ⟨k1, k2⟩ | ⟨k1, k2, k3, k4⟩
    · omega
    · rcases h2 with h2 | h2
      · exact absurd (h.sim.inj id j b hlv k3 h2 k4).symm k2
      · have := h.sim.block_lt k3 k4; omega
    · rcases k2 with k2 | k2
      · exact absurd (h.sim.inj id i b hlv h3 k2 h4).symm h2
      · have := h.sim.block_lt h3 h4; omega
    · exact h.sim.inj i j b h3 k3 h4 k4
  · exact fun s => Rel.keep hsz hF hG hK _ _ (h.env s)
  · exact RelL.keep hsz hF hG hK _ _ h.gh

/-- The cells of a row, as a list. -/
theorem row_owns (hs : Sim w0 w φ H) {id : Nat} {e : TypeId} {t : STy} {l : List t.S} (hh : hget H id = some (.row e t l)) :
    ∃ xs : List Value, w.ownsRow 0 e t.n (φ id) l.length xs ∧ ∀ i x, l[i]? = some x → RdC w (Gr w0 φ H) t x ((xs.drop (i * t.n)).take t.n) := by
  rcases hs.good id _ hh with ⟨h0, h1⟩ | ⟨b, cap, vs, h1, h2, h3, h4, h5, h6⟩
  · refine ⟨[], ⟨by simp [h0], .inl ⟨h1, by simp [h0]⟩⟩, fun i x hx => ?_⟩
    rw [h0] at hx; simp at hx
  · refine ⟨vs.toList.take (l.length * t.n), ⟨?_, .inr ⟨b, cap, vs, h1, Nat.zero_le _, h2, h3, h4, h5, rfl⟩⟩, fun i x hx => ?_⟩
    · have : l.length * t.n ≤ cap * t.n := Nat.mul_le_mul_right _ h3
      simp; omega
    · obtain ⟨us, e1, e2, e3⟩ := h6 i x hx
      have hi : i < l.length := by
        rcases Nat.lt_or_ge i l.length with h | h
        · exact h
        · rw [List.getElem?_eq_none h] at hx; cases hx
      have : (((vs.toList.take (l.length * t.n)).drop (i * t.n)).take t.n) = us := by
        apply List.ext_getElem?
        intro j
        have hin : (i + 1) * t.n ≤ l.length * t.n := Nat.mul_le_mul_right _ hi
        rw [Nat.add_mul, Nat.one_mul] at hin
        by_cases hj : j < t.n
        · rw [List.getElem?_take_of_lt hj, List.getElem?_drop, List.getElem?_take_of_lt (by omega)]
          obtain ⟨u, hu⟩ : ∃ u, us[j]? = some u := ⟨us[j]'(by omega), by simp⟩
          rw [hu]; simpa using e3 j u hu
        · rw [List.getElem?_eq_none (by simp; omega), List.getElem?_eq_none (by omega)]
      rw [this]; exact e2

theorem RdC.flat {F F' : Nat → Prop} : ∀ (t : STy) (x : t.S) (us : List Value), t.flat = true → RdC w F t x us → RdC w F' t x us := by
  intro t
  induction t with
  | int k => exact fun _ _ _ h => h
  | bool => exact fun _ _ _ h => h
  | flt k => exact fun _ _ _ h => h
  | cpx k => exact fun _ _ _ h => h
  | str => exact fun _ _ _ h => h
  | sl e ih => intro _ _ h; cases h
  | pair a b iha ihb =>
    rintro p us h ⟨u1, u2, h1, h2, h3⟩
    simp only [STy.flat, Bool.and_eq_true] at h
    exact ⟨u1, u2, h1, iha _ _ h.1 h2, ihb _ _ h.2 h3⟩

/-- What is appended, as cells that lie somewhere. -/
def Src (w : World) (G : Nat → Prop) (v : Value) (t : STy) (l : List t.S) : Prop :=
  (l = [] ∧ ∃ ad c, v = .slice ad 0 c) ∨
  ∃ (ad : Addr) (c : Nat) (news : List Value), v = .slice (some ad) l.length c ∧ news.length = l.length * t.n ∧ (∀ j u, news[j]? = some u → w.cell? (ad.add j) = some u) ∧ (∀ u ∈ news, Value.oneCell' u = true) ∧
    ∀ i x, l[i]? = some x → RdC w G t x ((news.drop (i * t.n)).take t.n)

theorem add_none (b o j : Nat) : (Addr.mk b o none).add j = ⟨b, o + j, none⟩ := by
  unfold Addr.add; split
  · rename_i e; subst e; rfl
  · rfl

theorem src_sl {F G : Nat → Prop} {v : Value} {t : STy} {l : List t.S} (h : RdSl w F t.n (RdC w F t) l v) (hF : ∀ x us, RdC w F t x us → RdC w G t x us) : Src w G v t l := by
  rcases h with ⟨h1, h2⟩ | ⟨b, off, cap, h1, h2, h3, h4, h5⟩
  · exact .inl ⟨h1, h2⟩
  · obtain ⟨fs, e1, e2, e3, e4⟩ := flat_cells b off l h5
    exact .inr ⟨⟨b, off, none⟩, cap, fs, h1, e1, fun j u hj => by rw [add_none]; exact e2 j u hj, e3, fun i x hx => hF _ _ (e4 i x hx)⟩

theorem src_own (hs : Sim w0 w φ H) {id : Nat} {e : TypeId} {t : STy} {l : List t.S} (hh : hget H id = some (.row e t l)) : Src w (Gr w0 φ H) (φ id) t l := by
  rcases hs.good id _ hh with ⟨h0, h1⟩ | ⟨b, cap, vs, h1, h2, h3, h4, h5, h6⟩
  · exact .inl ⟨h0, _, _, h1⟩
  · obtain ⟨fs, e1, e2, e3, e4⟩ := flat_cells (w := w) (F := Gr w0 φ H) b 0 l (fun i x hx => by
      obtain ⟨us, g1, g2, g3⟩ := h6 i x hx
      refine ⟨us, g1, g2, fun j u hj => ?_⟩
      simp only [World.cell?, h2, Nat.zero_add]
      simpa using g3 j u hj)
    exact .inr ⟨⟨b, 0, none⟩, cap, fs, h1, e1, fun j u hj => by rw [add_none]; exact e2 j u hj, e3, e4⟩

theorem src_of (hst : St N w0 E H φ a w) {y : Operand} {t : STy} {l : List t.S} (h : listAV t H (avOf E y) = some l) : Src w (Gr w0 φ H) (a.eval y) t l := by
  have hy := hst.opd y
  unfold listAV at h
  split at h
  · rename_i t' l' e
    rw [e] at hy; simp only [Rel, cond_true] at hy
    obtain ⟨rfl, rfl⟩ := lcast_spec h
    exact src_sl hy (fun _ _ h => h)
  · rename_i t' l' e
    rw [e] at hy; simp only [Rel, cond_false] at hy
    cases hf : t'.flat
    · rw [hf] at h; cases h
    · rw [hf] at h
      obtain ⟨rfl, rfl⟩ := lcast_spec h
      exact src_sl hy (fun x us h => RdC.flat _ x us hf h)
  · rename_i id e
    rw [e] at hy; simp only [Rel] at hy
    split at h
    · rename_i e' t' l' hh
      obtain ⟨rfl, rfl⟩ := lcast_spec h
      rw [hy.2 _ _ _ hh]
      exact src_own hst.sim hh
    · cases h
  · rename_i e
    rw [e] at hy; simp only [Rel] at hy
    cases h
    exact .inl ⟨rfl, _, _, hy⟩
  · cases h

/-- An empty slice is appended. -/
theorem run_append_empty {base t ty e size : Nat} {i : TypeInfo} {v : Value} {n : Nat} {xs : List Value} (ht : P.underlying t = some (.slice e)) (hi : P.info? e = some i) (hown : w.ownsRow base e size v n xs) (ad : Option Addr) (c : Nat) :
    (Builtin.append_ #[t, t] ty #[v, .slice ad 0 c]).run P w = .ok v w := by
  cases ad with
  | none =>
    rcases hown.2 with ⟨rfl, rfl⟩ | ⟨g, cap, cur, rfl, _, _, hnc, _⟩
    · simp [Builtin.append_, run_underlying ht, sizeOf, typeInfo, hi, Builtin.lenOf, Builtin.firstCells]
    · simp [Builtin.append_, run_underlying ht, sizeOf, typeInfo, hi, Builtin.lenOf, Builtin.firstCells, hnc, storeCells]
  | some ad =>
    rcases hown.2 with ⟨rfl, rfl⟩ | ⟨g, cap, cur, rfl, _, _, hnc, _⟩
    · simp [Builtin.append_, run_underlying ht, sizeOf, typeInfo, hi, Builtin.lenOf, Builtin.firstCells, loadCells, loadCellsFrom]
    · simp [Builtin.append_, run_underlying ht, sizeOf, typeInfo, hi, Builtin.lenOf, Builtin.firstCells, hnc, storeCells, loadCells, loadCellsFrom]

/-- What is appended to a row of the call's own. -/
theorem append_run {t ty e b : Nat} {T : STy} {i : TypeInfo} {z : Value} (ht : P.underlying t = some (.slice e)) (hi : P.info? e = some i) (hsz : i.size = T.n) (hby : i.bytes = b) (hz : i.zero = some z) (hzs : z.cells.size = T.n)
    {v u : Value} {G : Nat → Prop} {n : Nat} {xs : List Value} {B : Nat} (hown : w.ownsRow B e T.n v n xs) {l' : List T.S} (hu : Src w G u T l') (hB : B ≤ w.heap.size)
    (hb1 : (n + l'.length) * b ≤ 140737488355328) (hb2 : n + l'.length ≤ 140737488355328) :
    ∃ v' w' news, (Builtin.append_ #[t, t] ty #[v, u]).run P w = .ok v' w' ∧ w'.ownsRow B e T.n v' (n + l'.length) (xs ++ news) ∧ w.grownBy w' v.ownBlock ∧ news.length = l'.length * T.n ∧
      (∀ i x, l'[i]? = some x → RdC w G T x ((news.drop (i * T.n)).take T.n)) ∧ (∀ k, v'.ownBlock = some k → v.ownBlock = some k ∨ w.heap.size ≤ k) := by
  rcases hu with ⟨rfl, ad, c, rfl⟩ | ⟨ad, c, news, rfl, h1, h2, h3, h4⟩
  · exact ⟨v, w, [], run_append_empty ht hi hown ad c, by simpa using hown, ⟨rfl, rfl, rfl, Nat.le_refl _, fun _ _ _ => rfl⟩, by simp, fun i x hx => by simp at hx, fun k hk => .inl hk⟩
  · have hpos := T.n_pos
    obtain ⟨v', w', hrun, hown', hgr, _⟩ := run_append_own (P := P) w B t ty e i z T.n b ht hi hz hsz hby hzs hpos v n xs hown ad l'.length c news h1 h2 h3 (by unfold maxLen; omega) hb1 hB
    refine ⟨v', w', news, hrun, hown', hgr, h1, h4, fun k hk => ?_⟩
    rcases hown.2 with ⟨rfl, rfl⟩ | ⟨g, cap, cur, rfl, hbg, hg, hnc, hcm, hcs, htake⟩
    · have hx : xs = [] := List.eq_nil_of_length_eq_zero (by simpa using hown.1)
      subst hx
      obtain ⟨v2, w2, hrun2, hown2, _, _⟩ := run_append_own (P := P) w w.heap.size t ty e i z T.n b ht hi hz hsz hby hzs hpos (.slice none 0 0) 0 [] (World.ownsRow_nil w _ e T.n) ad l'.length c news h1 h2 h3 (by unfold maxLen; omega) hb1 (Nat.le_refl _)
      rw [hrun] at hrun2
      cases hrun2
      rcases hown2.2 with ⟨rfl, _⟩ | ⟨g, cap, cur, rfl, hg, _⟩
      · simp [Value.ownBlock] at hk
      · simp [Value.ownBlock] at hk; right; omega
    · by_cases hroom : n + l'.length ≤ cap
      · have hfit : n * i.size + news.length ≤ cur.size := by rw [h1, hcs, hsz, ← Nat.add_mul]; exact Nat.mul_le_mul_right _ hroom
        have hr := run_append_room (P := P) w t ty e i ht hi g n cap cur hg ad l'.length c news (by rw [hsz]; exact h1) h2 h3 hroom hfit
        rw [hrun] at hr
        cases hr
        left; exact hk
      · have holds : ∀ j u, xs[j]? = some u → w.cell? ((⟨g, 0, none⟩ : Addr).add j) = some u := hown.cells (g := g) rfl
        have hr := run_append_grow (P := P) w t ty e i z ht hi hz ⟨g, 0, none⟩ n cap xs (by rw [hsz]; exact hown.1) holds ad l'.length c news (by rw [hsz]; exact h1) h2 (by omega) (by omega) (growslice_fits (by omega) (by rw [hby]; exact hb1))
        rw [hrun] at hr
        cases hr
        simp [Value.ownBlock] at hk; right; omega
end sound
end Go.V

namespace Go.V
open Go.RowKit
section sound
variable {P : Program} {Γ : Tab} {N : Nat} {w0 : Base} {w w' : World} {E : Env} {H : Heap} {φ : Nat → Value} {a : Act} {K : AV → Heap → Prop} {own : List Nat}

theorem good_row {F G : Nat → Prop} {φ : Nat → Value} {H : Heap} {n : Nat} {e : TypeId} {t : STy} {l : List t.S} {B : Nat} {xs : List Value} (hown : w.ownsRow B e t.n (φ n) l.length xs)
    (hx : ∀ i x, l[i]? = some x → RdC w G t x ((xs.drop (i * t.n)).take t.n)) : GoodC w F G φ H n (.row e t l) := by
  rcases hown.2 with ⟨h1, h2⟩ | ⟨g, cap, cur, h1, _, h3, h4, h5, h6, h7⟩
  · left; exact ⟨List.eq_nil_of_length_eq_zero h2, h1⟩
  · right
    refine ⟨g, cap, cur, h1, h3, h4, h5, h6, fun i x hi => ?_⟩
    have hil : i < l.length := by
      rcases Nat.lt_or_ge i l.length with h | h
      · exact h
      · rw [List.getElem?_eq_none h] at hi; cases hi
    have hin : (i + 1) * t.n ≤ l.length * t.n := Nat.mul_le_mul_right _ hil
    rw [Nat.add_mul, Nat.one_mul] at hin
    refine ⟨_, ?_, hx i x hi, fun j u hj => ?_⟩
    · simp [hown.1]; omega
    · have hjn : j < t.n := by
        rcases Nat.lt_or_ge j t.n with h | h
        · exact h
        · rw [List.getElem?_eq_none (by simp; omega)] at hj; cases hj
      rw [List.getElem?_take_of_lt hjn, List.getElem?_drop] at hj
      have : (cur.toList.take (l.length * t.n))[i * t.n + j]? = xs[i * t.n + j]? := by rw [h7]
      rw [List.getElem?_take_of_lt (by omega), hj] at this
      simpa using this

theorem chunk_left {α : Type} (xs news : List α) (k n : Nat) (h : k + n ≤ xs.length) : ((xs ++ news).drop k).take n = (xs.drop k).take n := by
  rw [List.drop_append_of_le_length (by omega), List.take_append_of_le_length (by simp; omega)]
theorem chunk_right {α : Type} (xs news : List α) (k n : Nat) : ((xs ++ news).drop (xs.length + k)).take n = (news.drop k).take n := by
  rw [List.drop_append, List.drop_eq_nil_of_le (by omega)]; simp

theorem wop_append (hΓ : TabOK P Γ) (hst : St N w0 E H φ a w) {x y : Operand} {T T' : TypeId} {d : Option Tmp} {ty : TypeId} {pos : String} {af : Array Edge} {g : Option (Nat × Bool)}
    (h : wop Γ own E H ⟨d, .call ⟨.builtin .append, ⟨[x, y]⟩, ⟨[T, T']⟩⟩, ty, pos, af, g⟩ K) : DoesV P ⟨d, .call ⟨.builtin .append, ⟨[x, y]⟩, ⟨[T, T']⟩⟩, ty, pos, af, g⟩ a w (Left N w0 E a K) := by
  unfold wop at h
  simp only at h
  split at h
  case h_2 => exact h.elim
  rename_i td htd
  split at h
  case h_2 => exact h.elim
  rename_i e t b hk
  cases hT : Nat.beq T T'
  · rw [hT] at h; exact h.elim
  rw [hT] at h
  have := Nat.eq_of_beq_eq_true hT
  subst this
  simp only [cond_true] at h
  split at h
  case h_2 => exact h.elim
  rename_i l' hl'
  have hsrc := src_of hst hl'
  obtain ⟨u, hu, _, hkk⟩ := (hΓ.ok htd).und
  rw [hk] at hkk
  obtain ⟨rfl, ie, z, hie, hsz, hby, hz, hzz⟩ := kB_slice hkk
  have hzn : z.cells.size = t.n := by
    have := congrArg List.length hzz
    simpa [zty_length] using this
  have lift : ∀ {v : Value} {w' : World}, (Builtin.append_ #[T, T] ty #[a.eval x, a.eval y]).run P w = .ok v w' →
      (execOp a.eval ⟨d, .call ⟨.builtin .append, ⟨[x, y]⟩, ⟨[T, T]⟩⟩, ty, pos, af, g⟩).run P w = .ok (.value v) w' := by
    intro v w' hr
    simp only [execOp, resolve, invoke, builtin, Sem.run_bind, Sem.run_pure, Result.andThen_ok, List.map_toArray, List.map_cons, List.map_nil, hr]
  have hx := hst.opd x
  split at h
  · rename_i id ex
    rw [ex] at hx; simp only [Rel] at hx
    split at h
    case h_2 => exact h.elim
    rename_i e' t' l0 hh
    cases he : Nat.beq e e'
    · rw [he] at h; exact h.elim
    rw [he] at h
    have := Nat.eq_of_beq_eq_true he
    subst this
    simp only [cond_true] at h
    split at h
    case h_2 => exact h.elim
    rename_i l hl
    obtain ⟨rfl, rfl⟩ := lcast_spec hl
    obtain ⟨⟨hb1, hb2⟩, h⟩ := h
    obtain ⟨n, hn, hK⟩ := fresh_none h
    obtain ⟨xs, hown, hxs⟩ := row_owns hst.sim hh
    have hv := hx.2 _ _ _ hh
    obtain ⟨v', w', news, hrun, hown', hgr, hnl, hnews, hblk'⟩ := append_run hu hie hsz hby hz hzn (ty := ty) hown hsrc (Nat.zero_le _) hb1 hb2
    have hlv : hlive H id := ⟨_, hh, by intro hc; cases hc⟩
    have bo : ∀ v : Value, (∃ p n c, v = .slice p n c) → v.ownBlock = blk v := by
      rintro v ⟨p, n, c, rfl⟩; cases p <;> rfl
    have hsl : ∃ p n c, φ id = .slice p n c := by
      rcases hown.2 with ⟨h1, _⟩ | ⟨g, cap, cur, h1, _⟩ <;> rw [h1] <;> exact ⟨_, _, _, rfl⟩
    have hsl' : ∃ p n c, v' = .slice p n c := by
      rcases hown'.2 with ⟨h1, _⟩ | ⟨g, cap, cur, h1, _⟩ <;> rw [h1] <;> exact ⟨_, _, _, rfl⟩
    have hblock : ∀ b, b < w.heap.size → blk (φ id) ≠ some b → w'.heap[b]? = w.heap[b]? := fun b hb hne => hgr.block b hb (by rw [bo _ hsl]; exact fun h => hne h.symm)
    have hvb : ∀ b, blk v' = some b → blk (φ id) = some b ∨ w.heap.size ≤ b := fun b hb => by rw [← bo _ hsl]; exact hblk' b (by rw [bo _ hsl']; exact hb)
    have hkG : Keeps w w' (Gr w0 φ H) (Gr w0 (upd φ n v') ((n, .row e t' (l ++ l')) :: (id, .dead) :: H)) := fun b hf hlt =>
      have := keeps_move (w := w) (w' := w') (φ := φ) (D := .row e t' (l ++ l')) (v := v') hh (by intro hc; cases hc) hn hblock hvb b hf.2 hlt
      ⟨this.1, hf.1, this.2⟩
    refine DoesV.value (lift (by rw [hv]; exact hrun)) ⟨_, _, _, hK, hst.move (v := v') hh (by intro hc; cases hc) hn hgr.size ⟨hgr.os, hgr.tape, hgr.output, hgr.size, fun k hk => hblock k (Nat.lt_of_lt_of_le (w0.lt k hk) hst.sim.below.size) (fun hbk => (hst.sim.fresh id k hlv hbk).2 hk)⟩ hblock hvb ?_, ?_⟩
    · have hlen : (l ++ l').length = l.length + l'.length := by simp
      refine good_row (B := 0) (xs := xs ++ news) (by rw [hlen]; simpa [upd] using hown') (fun i y hy => ?_)
      rw [List.getElem?_append] at hy
      split at hy
      · rename_i hi
        have hin : (i + 1) * t'.n ≤ l.length * t'.n := Nat.mul_le_mul_right _ hi
        rw [Nat.add_mul, Nat.one_mul] at hin
        rw [chunk_left _ _ _ _ (by rw [hown.1]; omega)]
        exact RdC.keep hgr.size hkG _ _ _ (hxs i y hy)
      · rename_i hi
        have : i * t'.n = xs.length + (i - l.length) * t'.n := by
          rw [hown.1, ← Nat.add_mul]; congr 1; omega
        rw [this, chunk_right]
        exact RdC.keep hgr.size hkG _ _ _ (hnews _ y hy)
    · simp only [Rel, hget_cons, if_true]
      exact ⟨rfl, fun e' t' l' _ => by simp [upd]⟩
  · rename_i ex
    rw [ex] at hx; simp only [Rel] at hx
    obtain ⟨⟨hb1, hb2⟩, h⟩ := h
    obtain ⟨n, hn, hK⟩ := fresh_none h
    obtain ⟨v', w', news, hrun, hown', hgr, hnl, hnews, hblk'⟩ := append_run hu hie hsz hby hz hzn (ty := ty) (World.ownsRow_nil w w.heap.size e t.n) hsrc (Nat.le_refl _) (by rw [Nat.zero_add]; exact hb1) (by omega)
    have bo : ∀ v : Value, (∃ p n c, v = .slice p n c) → v.ownBlock = blk v := by
      rintro v ⟨p, n, c, rfl⟩; cases p <;> rfl
    have hsl' : ∃ p n c, v' = .slice p n c := by
      rcases hown'.2 with ⟨h1, _⟩ | ⟨g, cap, cur, h1, _⟩ <;> rw [h1] <;> exact ⟨_, _, _, rfl⟩
    have hvb : ∀ b, blk v' = some b → w.heap.size ≤ b := fun b hb => by
      rcases hblk' b (by rw [bo _ hsl']; exact hb) with h | h
      · simp [Value.ownBlock] at h
      · exact h
    have hbel : Below w.heap.size w w' := ⟨hgr.os, hgr.tape, hgr.output, hgr.size, fun k hk => hgr.block k hk (by simp [Value.ownBlock])⟩
    refine DoesV.value (lift (by rw [hx]; exact hrun)) ⟨_, _, _, hK, hst.new (v := v') hn hbel hvb ?_, ?_⟩
    · refine good_row (B := w.heap.size) (xs := [] ++ news) (by simpa [upd] using hown') (fun i y hy => ?_)
      rw [List.nil_append]
      exact RdC.keep hgr.size (gr_new hn hvb hbel) _ _ _ (hnews _ y hy)
    · simp only [Rel, hget_cons, if_true]
      exact ⟨rfl, fun e' t' l' _ => by simp [upd]⟩
  · exact h.elim

/-- What may be stored is no struct. -/
theorem oneB_one (hs : Sim w0 w φ H) {F G : Nat → Prop} {c : AV} {v : Value} (hb : oneB H c = true) (h : Rel w F G φ H c v) : v.oneCell' = true := by
  cases c <;> simp only [oneB] at hb <;> simp only [Rel] at h <;> (try cases hb)
  case tt => rw [h]; rfl
  case ff => rw [h]; rfl
  case val u => rw [h]; cases u <;> first | rfl | cases hb
  case flt => obtain ⟨b, rfl, _⟩ := h; rfl
  case cpx => obtain ⟨b, c, rfl, _⟩ := h; rfl
  case sl => rcases h with ⟨_, a, c, rfl⟩ | ⟨b, o, c, rfl, _⟩ <;> rfl
  case ptrR => obtain ⟨b, o, us, rfl, _⟩ := h; rfl
  case fn => obtain ⟨us, rfl, _⟩ := h; rfl
  case own id =>
    split at hb
    · rename_i e t l hh
      rw [h.2 _ _ _ hh]
      rcases hs.good id _ hh with ⟨_, h1⟩ | ⟨b, cap, vs, h1, _⟩ <;> rw [h1] <;> rfl
    · cases hb
  case ptrO id o =>
    split at hb
    · rename_i cs hh
      obtain ⟨b, _, h2⟩ := h.2 _ hh
      rw [h2]; rfl
    · cases hb

theorem oneB_all (hs : Sim w0 w φ H) {F G : Nat → Prop} : ∀ {cs : List AV} {us : List Value}, cs.all (oneB H) = true → RelL w F G φ H cs us → ∀ u ∈ us, u.oneCell' = true
  | [], us, _, h => by simp only [RelL] at h; subst h; simp
  | c :: cs, us, hb, h => by
    simp only [RelL] at h
    obtain ⟨v, vs, rfl, h1, h2⟩ := h
    simp only [List.all_cons, Bool.and_eq_true] at hb
    intro u hu
    rcases List.mem_cons.1 hu with rfl | hu
    · exact oneB_one hs hb.1 h1
    · exact oneB_all hs hb.2 h2 u hu

theorem storeVar_run {T : TypeId} {td : TD} (ht : TDOK P T td) {b o : Nat} {cur : Array Value} {e : TypeId} {v : Value} (hg : w.heap[b]? = some (.cells cur e (0, 0))) (hl : v.cells.size = td.n)
    (hfit : o + td.n ≤ cur.size) (h1 : ∀ u ∈ v.cells.toList, u.oneCell' = true) :
    (Instr.storeAt T (.pointer (some ⟨b, o, none⟩)) v).run P w = .ok () (w.setRow b (cur.toList.take o ++ v.cells.toList ++ cur.toList.drop (o + td.n)).toArray) := by
  have := run_storeCells_at P b o e v.cells.toList 0 cur w hg (by rw [Array.length_toList, hl]; omega) h1
  simp only [Nat.add_zero, Array.length_toList, hl] at this
  have hsz := ht.size w
  simp only [Instr.storeAt, Instr.sureAddr, storeVar, Sem.run_bind, Sem.run_pure, Result.andThen_ok, hsz, hl, ne_eq, not_true_eq_false, if_false]
  exact this

theorem wop_store (hΓ : TabOK P Γ) (hst : St N w0 E H φ a w) {T : TypeId} {p x : Operand} {d : Option Tmp} {ty : TypeId} {pos : String} {af : Array Edge} {g : Option (Nat × Bool)}
    (h : wop Γ own E H ⟨d, .store T p x, ty, pos, af, g⟩ K) : DoesV P ⟨d, .store T p x, ty, pos, af, g⟩ a w (Left N w0 E a K) := by
  unfold wop at h
  simp only at h
  split at h
  case h_2 => exact h.elim
  rename_i td cs htd hcs
  have ht := hΓ.ok htd
  cases hc : (Nat.beq cs.length td.n && cs.all (oneB H))
  · rw [hc] at h; exact h.elim
  rw [hc] at h
  simp only [cond_true] at h
  simp only [Bool.and_eq_true] at hc
  have hlen := Nat.eq_of_beq_eq_true hc.1
  have hxr := cellsC_rel hst.sim hcs (hst.opd x)
  have hone := oneB_all hst.sim hc.2 hxr
  have hvl : (a.eval x).cells.size = td.n := by rw [← Array.length_toList, hxr.length, hlen]
  have hp := hst.opd p
  have lift : ∀ {w' : World}, (Instr.storeAt T (a.eval p) (a.eval x)).run P w = .ok () w' → (execOp a.eval ⟨d, .store T p x, ty, pos, af, g⟩).run P w = .ok .skip w' := by
    intro w' hr
    simp only [execOp, Sem.run_bind, hr, Result.andThen_ok]; rfl
  split at h
  · rename_i id off ep
    rw [ep] at hp; simp only [Rel] at hp
    split at h
    case h_2 => exact h.elim
    rename_i ds hh
    cases hfit : Nat.ble (off + cs.length) ds.length
    · rw [hfit] at h; exact h.elim
    rw [hfit] at h
    have hfit := Nat.le_of_ble_eq_true hfit
    simp only [cond_true] at h
    have hlv : hlive H id := ⟨_, hh, by intro hc; cases hc⟩
    obtain ⟨b, TT, us, h1, h2, h3⟩ := hst.sim.good id _ hh
    obtain ⟨b', h1', h4⟩ := hp.2 _ hh
    rw [h1] at h1'; cases h1'
    have hul := h3.length
    have hrun := storeVar_run ht (w := w) (b := b) (o := off) (v := a.eval x) h2 hvl (by simp [hul]; omega) hone
    have hoth : ∀ b2, b2 < w.heap.size → blk (φ id) ≠ some b2 → (w.setRow b (us.toArray.toList.take off ++ (a.eval x).cells.toList ++ us.toArray.toList.drop (off + td.n)).toArray).heap[b2]? = w.heap[b2]? :=
      fun b2 _ hne => setRow_other w b b2 _ (fun e => hne (by rw [h1, e]; rfl))
    have hDoes : ∀ (Q : Value → World → Prop), Q undef (w.setRow b (us.toArray.toList.take off ++ (a.eval x).cells.toList ++ us.toArray.toList.drop (off + td.n)).toArray) → DoesV P ⟨d, .store T p x, ty, pos, af, g⟩ a w Q := by
      intro Q hQ
      unfold DoesV
      rw [lift (by rw [h4]; exact hrun)]
      exact hQ
    refine hDoes _ ⟨_, _, _, h, hst.set hh (by intro hc; cases hc) ⟨fun e t l he => (by cases he), fun cs' _ => ⟨_, rfl⟩⟩ (by simp) ?_ hoth ?_, by simp only [Rel]⟩
    · exact ⟨rfl, rfl, rfl, by simp, fun k hk => hoth k (Nat.lt_of_lt_of_le (w0.lt k hk) hst.sim.below.size) (fun hbk => (hst.sim.fresh id k hlv hbk).2 hk)⟩
    · refine ⟨b, TT, us.take off ++ (a.eval x).cells.toList ++ us.drop (off + td.n), h1, setRow_heap w b _ _ TT _ h2, ?_⟩
      have hK := hkeeps_set (φ := φ) (D := .box (ds.take off ++ cs ++ ds.drop (off + cs.length))) hh ⟨fun e t l he => (by cases he), fun cs' _ => ⟨_, rfl⟩⟩
      have sub : ∀ i, hlive ((id, .box (ds.take off ++ cs ++ ds.drop (off + cs.length))) :: H) i → hlive H i := by
        intro i h'
        rcases hlive_cons h' with rfl | h'
        · exact hlv
        · exact h'
      refine RelL.keep (w := w) (F := Fr φ H) (G := Gr w0 φ H) (φ := φ) (H := H) (by simp) ?_ ?_ hK _ _ ?_
      · exact fun b2 hf hlt => ⟨hoth b2 hlt (hf id hlv), fun i h' => hf i (sub i h')⟩
      · exact fun b2 hf hlt => ⟨hoth b2 hlt (hf.2 id hlv), hf.1, fun i h' => hf.2 i (sub i h')⟩
      · have e1 : off + cs.length = off + td.n := by rw [hlen]
        rw [e1]
        exact RelL.append (RelL.append (h3.take off) hxr) (h3.drop _)
  · rename_i id i off ep
    rw [ep] at hp; simp only [Rel] at hp
    split at h
    case h_2 => exact h.elim
    rename_i e t l hh
    obtain ⟨x0, hx0, h⟩ := h
    split at h
    case h_2 => exact h.elim
    rename_i y hy
    cases hfit : Nat.ble (off + cs.length) t.n
    · rw [hfit] at h; exact h.elim
    rw [hfit] at h
    have hfit := Nat.le_of_ble_eq_true hfit
    simp only [cond_true] at h
    have hlv : hlive H id := ⟨_, hh, by intro hc; cases hc⟩
    obtain ⟨b, c, h1, h4⟩ := hp.2 _ _ _ hh
    rcases hst.sim.good id _ hh with ⟨h0, _⟩ | ⟨b', cap, vs, h1', h2, h3, h3', h5, h6⟩
    · subst h0; simp at hx0
    rw [h1] at h1'; cases h1'
    obtain ⟨us, g1, g2, g3⟩ := h6 i x0 hx0
    have hi : i < l.length := by
      rcases Nat.lt_or_ge i l.length with h | h
      · exact h
      · rw [List.getElem?_eq_none h] at hx0; cases hx0
    have hin : (i + 1) * t.n ≤ c * t.n := Nat.mul_le_mul_right _ (by omega)
    rw [Nat.add_mul, Nat.one_mul] at hin
    have hrun := storeVar_run ht (w := w) (b := b) (o := i * t.n + off) (v := a.eval x) h2 hvl (by omega) hone
    have hoth : ∀ b2, b2 < w.heap.size → blk (φ id) ≠ some b2 → (w.setRow b (vs.toList.take (i * t.n + off) ++ (a.eval x).cells.toList ++ vs.toList.drop (i * t.n + off + td.n)).toArray).heap[b2]? = w.heap[b2]? :=
      fun b2 _ hne => setRow_other w b b2 _ (fun e => hne (by rw [h1, e]; rfl))
    have hDoes : ∀ (Q : Value → World → Prop), Q undef (w.setRow b (vs.toList.take (i * t.n + off) ++ (a.eval x).cells.toList ++ vs.toList.drop (i * t.n + off + td.n)).toArray) → DoesV P ⟨d, .store T p x, ty, pos, af, g⟩ a w Q := by
      intro Q hQ
      unfold DoesV
      rw [lift (by rw [h4]; exact hrun)]
      exact hQ
    have hset : (l.set i y).length = l.length := by simp
    refine hDoes _ ⟨_, _, _, h, hst.set hh (by intro hc; cases hc) ⟨fun e' t' l' he => (by cases he; exact ⟨_, rfl, hset.symm⟩), fun cs' he => (by cases he)⟩ (by simp) ?_ hoth ?_, by simp only [Rel]⟩
    · exact ⟨rfl, rfl, rfl, by simp, fun k hk => hoth k (Nat.lt_of_lt_of_le (w0.lt k hk) hst.sim.below.size) (fun hbk => (hst.sim.fresh id k hlv hbk).2 hk)⟩
    · have sub : ∀ j, hlive ((id, .row e t (l.set i y)) :: H) j → hlive H j := by
        intro j h'
        rcases hlive_cons h' with rfl | h'
        · exact hlv
        · exact h'
      have hkG : Keeps w (w.setRow b (vs.toList.take (i * t.n + off) ++ (a.eval x).cells.toList ++ vs.toList.drop (i * t.n + off + td.n)).toArray) (Gr w0 φ H) (Gr w0 φ ((id, .row e t (l.set i y)) :: H)) :=
        fun b2 hf hlt => ⟨hoth b2 hlt (hf.2 id hlv), hf.1, fun i h' => hf.2 i (sub i h')⟩
      right
      refine ⟨b, c, _, by rw [h1, hset], setRow_heap w b _ _ e _ h2, by rw [hset]; exact h3, h3', ?_, fun j z hz => ?_⟩
      · simp [hvl, h5]; omega
      · have hvs : ∀ q : Nat, (vs.toList.take (i * t.n + off) ++ (a.eval x).cells.toList ++ vs.toList.drop (i * t.n + off + td.n)).toArray[q]? =
            if i * t.n + off ≤ q ∧ q < i * t.n + off + td.n then (a.eval x).cells.toList[q - (i * t.n + off)]? else vs[q]? := by
          intro q
          have ha : (vs.toList.take (i * t.n + off)).length = i * t.n + off := by simp; omega
          have hb : (a.eval x).cells.toList.length = td.n := by rw [Array.length_toList, hvl]
          simp only [List.getElem?_toArray]
          by_cases c1 : q < i * t.n + off
          · rw [if_neg (by omega), List.append_assoc, List.getElem?_append_left (by rw [ha]; exact c1), List.getElem?_take_of_lt c1]; simp
          · by_cases c2 : q < i * t.n + off + td.n
            · rw [if_pos ⟨by omega, c2⟩, List.append_assoc, List.getElem?_append_right (by rw [ha]; omega), ha, List.getElem?_append_left (by rw [hb]; omega)]
            · rw [if_neg (by omega), List.getElem?_append_right (by simp only [List.length_append, ha, hb]; omega)]
              simp only [List.length_append, ha, hb, List.getElem?_drop]
              rw [show i * t.n + off + td.n + (q - (i * t.n + off + td.n)) = q by omega]; simp
        by_cases hj : j = i
        · subst hj
          rw [List.getElem?_set_self hi] at hz
          cases hz
          have hr2 : RelL w (Fr φ H) (Gr w0 φ H) φ H ((t.enc true x0).take off ++ cs ++ (t.enc true x0).drop (off + cs.length)) (us.take off ++ (a.eval x).cells.toList ++ us.drop (off + cs.length)) :=
            RelL.append (RelL.append ((enc_rel true t x0 us g2).take off) hxr) ((enc_rel true t x0 us g2).drop _)
          refine ⟨_, ?_, RdC.keep (by simp) hkG _ _ _ (dec_rel t _ y _ hy hr2), fun q u hq => ?_⟩
          · simp [hvl, g1]; omega
          · rw [hvs]
            have ha : (us.take off).length = off := by simp; omega
            have hb : (a.eval x).cells.toList.length = td.n := by rw [Array.length_toList, hvl]
            by_cases c1 : q < off
            · rw [if_neg (by omega)]
              rw [List.append_assoc, List.getElem?_append_left (by rw [ha]; exact c1), List.getElem?_take_of_lt c1] at hq
              exact g3 q u hq
            · by_cases c2 : q < off + td.n
              · rw [if_pos ⟨by omega, by omega⟩]
                rw [List.append_assoc, List.getElem?_append_right (by rw [ha]; omega), ha, List.getElem?_append_left (by rw [hb]; omega)] at hq
                rw [show j * t.n + q - (j * t.n + off) = q - off by omega]; exact hq
              · rw [if_neg (by omega)]
                rw [List.getElem?_append_right (by simp only [List.length_append, ha, hb]; omega)] at hq
                simp only [List.length_append, ha, hb, List.getElem?_drop] at hq
                rw [show off + cs.length + (q - (off + td.n)) = q by omega] at hq
                exact g3 q u hq
        · rw [List.getElem?_set_ne (fun e => hj e.symm)] at hz
          obtain ⟨us', k1, k2, k3⟩ := h6 j z hz
          refine ⟨us', k1, RdC.keep (by simp) hkG _ _ _ k2, fun q u hq => ?_⟩
          have hqn : q < t.n := by
            rcases Nat.lt_or_ge q t.n with h | h
            · exact h
            · rw [List.getElem?_eq_none (by omega)] at hq; cases hq
          rw [hvs, if_neg]
          · exact k3 q u hq
          · rintro ⟨c1, c2⟩
            rcases Nat.lt_or_ge j i with h | h
            · have : (j + 1) * t.n ≤ i * t.n := Nat.mul_le_mul_right _ h
              rw [Nat.add_mul, Nat.one_mul] at this; omega
            · have : (i + 1) * t.n ≤ j * t.n := Nat.mul_le_mul_right _ (by omega)
              rw [Nat.add_mul, Nat.one_mul] at this; omega
  · exact h.elim

theorem wop_sound (hΓ : TabOK P Γ) (hst : St N w0 E H φ a w) {o : Oper} (h : wop Γ own E H o K) : DoesV P o a w (Left N w0 E a K) := by
  obtain ⟨d, op, ty, pos, af, g⟩ := o
  by_cases h1 : ∃ T k ps, op = .buildSlice T k ps
  · obtain ⟨T, k, ps, rfl⟩ := h1; exact wop_buildSlice hΓ hst h
  by_cases h2 : ∃ T x y, op = .makeSlice T x y
  · obtain ⟨T, x, y, rfl⟩ := h2; exact wop_makeSlice hΓ hst h
  by_cases h3 : ∃ x y T T', op = .call ⟨.builtin .append, ⟨[x, y]⟩, ⟨[T, T']⟩⟩
  · obtain ⟨x, y, T, T', rfl⟩ := h3; exact wop_append hΓ hst h
  by_cases h4 : ∃ T p x, op = .store T p x
  · obtain ⟨T, p, x, rfl⟩ := h4; exact wop_store hΓ hst h
  have rest : (aop Γ E H op fun av => K av H) → DoesV P ⟨d, op, ty, pos, af, g⟩ a w (Left N w0 E a K) := by
    intro h
    obtain ⟨av, hK, hok⟩ := aop_sound (P := P) hΓ (o := ⟨d, op, ty, pos, af, g⟩) h
    exact left_ext hst hK hok
  unfold wop at h
  simp only at h
  split at h
  · rename_i T
    split at h
    case h_2 => exact h.elim
    rename_i td htd
    obtain ⟨n, hn, hK⟩ := fresh_none h
    obtain ⟨i, z, hi, _, hz, hzz⟩ := (hΓ.ok htd).info
    refine left_box (T := T) (v := z) hst hn hK ?_ (by rw [← hzz]; exact zavs_rel _)
    simp only [execOp, Instr.alloc, zeroValue, Sem.run_bind, run_typeInfo w hi, Result.andThen_ok, hz, Sem.run_pure, newVar, newRow, newObj, Sem.run]
    rfl
  · rename_i T x
    split at h
    case h_2 => exact h.elim
    rename_i cs hcs
    cases ho : isOwn own d
    · rw [ho] at h
      exact rest (by unfold aop; simp only [hcs]; exact h)
    · rw [ho] at h
      simp only [cond_true] at h
      obtain ⟨n, hn, hK⟩ := fresh_none h
      exact left_box (T := T) (v := a.eval x) hst hn hK rfl (cellsC_rel hst.sim hcs (hst.opd x))
  · exact absurd ⟨_, _, _, rfl⟩ h1
  · exact absurd ⟨_, _, _, rfl⟩ h2
  · exact absurd ⟨_, _, _, _, rfl⟩ h3
  · exact absurd ⟨_, _, _, rfl⟩ h4
  · exact rest h
end sound
end Go.V
