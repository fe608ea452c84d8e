/- Contracts that say less, under other names; and what is handed back as nil, as empty rows. -/
import Derived.Test.YthhmolipdnijaaaVe
set_option linter.unusedVariables false
set_option linter.unusedSimpArgs false
set_option linter.unnecessarySimpa false
set_option exponentiation.threshold 4000
namespace Go.V
open Ieee

theorem signed_eq (s : Bool) (m d : Nat) : signed s m d = (if s then -((m : Int) * 2 ^ d) else (m : Int) * 2 ^ d) := by
  unfold signed
  cases s <;> simp [Nat.shiftLeft_eq]

def huge : Nat := (2 ^ 250) ^ 12
theorem huge_eq : huge = 2 ^ (250 * 12) := (Nat.pow_mul 2 250 12).symm

/-- A number's place in the order. -/
def kap (k : FloatKind) (b : Nat) : Int := match k.format.read b with
  | .nan _ _ => 0
  | .infinity s => if s then -(huge : Int) else huge
  | .number s m i => signed s m (i - k.format.leastPlace).toNat

theorem read_bound {k : FloatKind} {b : Nat} {s : Bool} {m : Nat} {i : Int} (h : k.format.read b = .number s m i) : m < 2 ^ 60 ∧ k.format.leastPlace ≤ i ∧ (i - k.format.leastPlace).toNat < 2900 := by
  have e1 : k.format.binade ≤ 2 ^ 52 := by cases k <;> decide +kernel
  have e0 : 0 < k.format.binade := by cases k <;> decide +kernel
  have e2 : k.format.infRung ≤ 2047 * k.format.binade := by cases k <;> decide +kernel
  unfold Format.read at h
  simp only at h
  generalize b % k.format.signWeight = r at h
  split at h
  · simp only [Datum.number.injEq] at h
    obtain ⟨_, rfl, rfl⟩ := h
    refine ⟨by omega, Int.le_refl _, by simp⟩
  · split at h
    · rename_i h1 h2
      simp only [Datum.number.injEq] at h
      obtain ⟨_, rfl, rfl⟩ := h
      have h3 : r % k.format.binade < k.format.binade := Nat.mod_lt _ e0
      have h4 : r / k.format.binade < 2047 := (Nat.div_lt_iff_lt_mul e0).2 (by omega)
      refine ⟨by omega, by omega, by omega⟩
    · split at h <;> cases h

theorem pow_lt {m d : Nat} (hm : m < 2 ^ 60) (hd : d < 2900) : (m : Int) * 2 ^ d < huge := by
  have h1 : m * 2 ^ d < 2 ^ 60 * 2 ^ d := Nat.mul_lt_mul_of_pos_right hm (Nat.two_pow_pos _)
  rw [← Nat.pow_add] at h1
  have h2 : 2 ^ (60 + d) ≤ huge := Nat.le_trans (Nat.pow_le_pow_right (by decide) (by omega)) (Nat.le_of_eq huge_eq.symm)
  have h3 : m * 2 ^ d < huge := Nat.lt_of_lt_of_le h1 h2
  have h4 : ((m * 2 ^ d : Nat) : Int) < (huge : Int) := Int.ofNat_lt.2 h3
  rw [Int.natCast_mul, Int.natCast_pow] at h4
  exact h4
theorem signed_lt {s : Bool} {m d : Nat} (hm : m < 2 ^ 60) (hd : d < 2900) : -(huge : Int) < signed s m d ∧ signed s m d < huge := by
  have h := pow_lt hm hd
  have h0 : (0 : Int) ≤ (m : Int) * 2 ^ d := Int.mul_nonneg (by omega) (Int.le_of_lt (Int.pow_pos (by decide)))
  rw [signed_eq]
  generalize (m : Int) * 2 ^ d = z at *
  generalize (huge : Int) = g at *
  cases s <;> simp <;> omega
theorem huge_pos : (0 : Int) < huge := Int.ofNat_lt.2 (Nat.lt_of_lt_of_eq (Nat.two_pow_pos _) huge_eq.symm)

theorem cmp_lt {x y : Int} (h : x < y) : compare x y = .lt := Int.compare_eq_lt.2 h
theorem cmp_gt {x y : Int} (h : y < x) : compare x y = .gt := Int.compare_eq_gt.2 h

theorem compare_mul (x y : Int) (p : Nat) : compare (x * 2 ^ p) (y * 2 ^ p) = compare x y := by
  have hp : (0 : Int) < 2 ^ p := Int.pow_pos (by decide)
  rcases Int.lt_trichotomy x y with h | h | h
  · rw [cmp_lt h, cmp_lt (Int.mul_lt_mul_of_pos_right h hp)]
  · subst h; simp
  · rw [cmp_gt h, cmp_gt (Int.mul_lt_mul_of_pos_right h hp)]

theorem signed_shift (s : Bool) (m : Nat) {i base least : Int} (h1 : base ≤ i) (h2 : least ≤ base) : signed s m (i - least).toNat = signed s m (i - base).toNat * 2 ^ (base - least).toNat := by
  rw [signed_eq, signed_eq, show (i - least).toNat = (i - base).toNat + (base - least).toNat by omega, Int.pow_add]
  cases s <;> simp [Int.mul_assoc, Int.neg_mul]

theorem order_kap {k : FloatKind} {a b : Nat} (ha : isNan k a = false) (hb : isNan k b = false) : k.format.order a b = some (compare (kap k a) (kap k b)) := by
  unfold isNan at ha hb
  unfold Format.order kap
  have hp := huge_pos
  cases h1 : k.format.read a with
  | nan s t => rw [h1] at ha; cases ha
  | infinity s =>
    cases h2 : k.format.read b with
    | nan s t => rw [h2] at hb; cases hb
    | infinity t =>
      simp only [Datum.order]
      congr 1
      generalize (huge : Int) = g at *
      cases s <;> cases t <;> simp only [if_true, if_false, Bool.false_eq_true]
      · simp
      · rw [cmp_gt (by omega)]; rfl
      · rw [cmp_lt (by omega)]; rfl
      · simp
    | number t n j =>
      obtain ⟨b1, b2, b3⟩ := read_bound h2
      have := signed_lt (s := t) b1 b3
      simp only [Datum.order]
      congr 1
      cases s <;> simp only [if_true, if_false, Bool.false_eq_true]
      · rw [cmp_gt this.2]
      · rw [cmp_lt this.1]
  | number s m i =>
    obtain ⟨a1, a2, a3⟩ := read_bound h1
    have hpa := signed_lt (s := s) a1 a3
    cases h2 : k.format.read b with
    | nan s t => rw [h2] at hb; cases hb
    | infinity t =>
      simp only [Datum.order]
      congr 1
      cases t <;> simp only [if_true, if_false, Bool.false_eq_true]
      · rw [cmp_lt hpa.2]
      · rw [cmp_gt hpa.1]
    | number t n j =>
      obtain ⟨b1, b2, b3⟩ := read_bound h2
      simp only [Datum.order]
      congr 1
      rw [signed_shift s m (i := i) (base := min i j) (least := k.format.leastPlace) (by omega) (by omega), signed_shift t n (i := j) (base := min i j) (least := k.format.leastPlace) (by omega) (by omega), compare_mul]

theorem fgt_kap {k : FloatKind} {a b : Nat} (ha : isNan k a = false) (hb : isNan k b = false) : fgt k a b = decide (kap k b < kap k a) := by
  unfold fgt
  rw [order_kap ha hb]
  rcases Int.lt_trichotomy (kap k a) (kap k b) with h | h | h
  · rw [cmp_lt h, decide_eq_false (by omega)]; rfl
  · rw [h, decide_eq_false (by omega)]; simp
  · rw [cmp_gt h, decide_eq_true h]; rfl
theorem flt_kap {k : FloatKind} {a b : Nat} (ha : isNan k a = false) (hb : isNan k b = false) : flt k a b = decide (kap k a < kap k b) := by
  unfold flt
  rw [order_kap ha hb]
  rcases Int.lt_trichotomy (kap k a) (kap k b) with h | h | h
  · rw [cmp_lt h, decide_eq_true h]; rfl
  · rw [h, decide_eq_false (by omega)]; simp
  · rw [cmp_gt h, decide_eq_false (by omega)]; rfl
theorem feq_kap {k : FloatKind} {a b : Nat} (ha : isNan k a = false) (hb : isNan k b = false) : feq k a b = decide (kap k a = kap k b) := by
  unfold feq
  rw [order_kap ha hb]
  rcases Int.lt_trichotomy (kap k a) (kap k b) with h | h | h
  · rw [cmp_lt h, decide_eq_false (by omega)]; rfl
  · rw [h, decide_eq_true rfl]; simp
  · rw [cmp_gt h, decide_eq_false (by omega)]; rfl
end Go.V

namespace Go.V
open List

section
variable {key : Int → Int}

def bef (key : Int → Int) (x y : Int) : Prop := key x < key y ∨ (key x = key y ∧ x < y)
instance (key : Int → Int) (x y : Int) : Decidable (bef key x y) := by unfold bef; exact inferInstance
def leB (key : Int → Int) (x y : Int) : Bool := !decide (bef key y x)

theorem leB_not {x y : Int} : leB key x y = true ↔ ¬ bef key y x := by
  unfold leB
  simp only [Bool.not_eq_true', decide_eq_false_iff_not]
theorem leB_iff {x y : Int} : leB key x y = true ↔ bef key x y ∨ x = y := by
  rw [leB_not]
  by_cases e : x = y
  · subst e; unfold bef; omega
  · unfold bef; omega
theorem leB_trans (a b c : Int) (h1 : leB key a b = true) (h2 : leB key b c = true) : leB key a c = true := by
  rw [leB_not] at *
  unfold bef at *
  omega
theorem leB_total (a b : Int) : (leB key a b || leB key b a) = true := by
  rw [Bool.or_eq_true, leB_not, leB_not]
  unfold bef
  omega
theorem leB_antisymm {a b : Int} (h1 : leB key a b = true) (h2 : leB key b a = true) : a = b := by
  rw [leB_not] at *
  unfold bef at *
  omega

abbrev Srt (key : Int → Int) (s : List Int) : Prop := s.Pairwise fun x y => leB key x y = true

def srt (key : Int → Int) (s : List Int) : List Int := s.mergeSort (leB key)
theorem srt_perm (s : List Int) : srt key s ~ s := mergeSort_perm s _
theorem srt_srt (s : List Int) : Srt key (srt key s) := pairwise_mergeSort leB_trans leB_total s
theorem srt_uniq {s t : List Int} (h1 : Srt key t) (h2 : t ~ s) : t = srt key s :=
  Perm.eq_of_pairwise (le := fun x y => leB key x y = true) (fun _ _ _ _ => leB_antisymm) h1 (srt_srt s) (h2.trans (srt_perm s).symm)
theorem srt_len (s : List Int) : (srt key s).length = s.length := (srt_perm s).length_eq

/-- The elements of a part. -/
def seg (d : List Int) (a b : Nat) : List Int := (d.drop a).take (b - a)
theorem seg_len {d : List Int} {a b : Nat} (h : b ≤ d.length) : (seg d a b).length = b - a := by
  unfold seg
  rw [length_take, length_drop]; omega
theorem cut3 (d : List Int) {a b : Nat} (h : a ≤ b) : d.take a ++ seg d a b ++ d.drop b = d := by
  unfold seg
  rw [append_assoc]
  have : (d.drop a).take (b - a) ++ d.drop b = d.drop a := by
    have := take_append_drop (b - a) (d.drop a)
    rw [drop_drop, show a + (b - a) = b by omega] at this
    exact this
  rw [this, take_append_drop]
theorem seg_succ {d : List Int} {a b : Nat} (h : a ≤ b) (hb : b < d.length) : seg d a (b + 1) = seg d a b ++ [d.getD b 0] := by
  unfold seg
  rw [show b + 1 - a = (b - a) + 1 by omega, take_succ_eq_append_getElem (by rw [length_drop]; omega)]
  congr 1
  simp [show a + (b - a) = b by omega, hb]

theorem get_app (A : List Int) (x : Int) (B : List Int) : (A ++ x :: B).getD A.length 0 = x := by simp
theorem set_app (A : List Int) (x y : Int) (B : List Int) : (A ++ x :: B).set A.length y = A ++ y :: B := by simp

/-- Two neighbours are exchanged. -/
theorem swap_adj (A : List Int) (y x : Int) (B : List Int) : ((A ++ y :: x :: B).set (A.length + 1) y).set A.length x = A ++ x :: y :: B := by
  rw [show A ++ y :: x :: B = (A ++ [y]) ++ x :: B by simp, show A.length + 1 = (A ++ [y]).length by simp, set_app, append_assoc, singleton_append, set_app]

/-- One is put in its place: those behind it in the order are behind it, the last one ahead of it is not. -/
theorem ins_srt {A B : List Int} {x : Int} (h : Srt key (A ++ B)) (hB : ∀ y ∈ B, leB key x y = true) (hA : ∀ y, A.getLast? = some y → leB key y x = true) : Srt key (A ++ x :: B) := by
  rw [Srt, pairwise_append] at h ⊢
  obtain ⟨h1, h2, h3⟩ := h
  have hA' : ∀ y ∈ A, leB key y x = true := by
    intro y hy
    rcases List.eq_nil_or_concat A with rfl | ⟨A', z, rfl⟩
    · simp at hy
    · have hz : leB key z x = true := hA z (by simp)
      rw [concat_eq_append, mem_append, mem_singleton] at hy
      rw [concat_eq_append, pairwise_append] at h1
      rcases hy with hy | rfl
      · exact leB_trans _ _ _ (h1.2.2 y hy z (by simp)) hz
      · exact hz
  refine ⟨h1, pairwise_cons.2 ⟨hB, h2⟩, fun a ha b hb => ?_⟩
  rw [mem_cons] at hb
  rcases hb with rfl | hb
  · exact hA' a ha
  · exact h3 a ha b hb
end
end Go.V

namespace Go.V
open List

section
variable {key : Int → Int}

theorem srt_append {L R : List Int} (h : ∀ x ∈ L, ∀ y ∈ R, leB key x y = true) : srt key L ++ srt key R = srt key (L ++ R) :=
  srt_uniq (pairwise_append.2 ⟨srt_srt L, srt_srt R, fun x hx y hy => h x ((srt_perm L).mem_iff.1 hx) y ((srt_perm R).mem_iff.1 hy)⟩) ((srt_perm L).append (srt_perm R))

theorem srt_self {L : List Int} (h : Srt key L) : srt key L = L := (srt_uniq h (Perm.refl _)).symm

theorem srt_perm_eq {L R : List Int} (h : L ~ R) : srt key L = srt key R := srt_uniq (srt_srt L) ((srt_perm L).trans h)

theorem le_last {A : List Int} (hA : Srt key A) {x z : Int} (hx : x ∈ A) (hz : A.getLast? = some z) : leB key x z = true := by
  rcases List.eq_nil_or_concat A with rfl | ⟨A', w, rfl⟩
  · simp at hx
  · have : w = z := by simpa using hz
    subst this
    rw [concat_eq_append] at hA hx
    rw [Srt, pairwise_append] at hA
    rw [mem_append, mem_singleton] at hx
    rcases hx with hx | rfl
    · exact hA.2.2 x hx w (by simp)
    · exact leB_iff.2 (.inr rfl)
theorem head_le {A : List Int} (hA : Srt key A) {x z : Int} (hx : x ∈ A) (hz : A.head? = some z) : leB key z x = true := by
  cases A with
  | nil => simp at hx
  | cons w A =>
    have : w = z := by simpa using hz
    subst this
    rw [Srt, pairwise_cons] at hA
    rw [mem_cons] at hx
    rcases hx with rfl | hx
    · exact leB_iff.2 (.inr rfl)
    · exact hA.1 x hx

theorem leB_key {x y : Int} (h : leB key x y = true) : key x ≤ key y := by
  rw [leB_not] at h; unfold bef at h; omega
theorem leB_of {x y : Int} (h : key x ≤ key y) (hxy : x < y) : leB key x y = true := by
  rw [leB_not]; unfold bef; omega
theorem leB_lt {x y : Int} (h : key x < key y) : leB key x y = true := by
  rw [leB_not]; unfold bef; omega

theorem last_ex {A : List Int} {x : Int} (h : x ∈ A) : ∃ z, A.getLast? = some z := by
  cases hz : A.getLast? with
  | none => rw [getLast?_eq_none_iff] at hz; subst hz; simp at h
  | some z => exact ⟨z, rfl⟩
theorem head_ex {A : List Int} {x : Int} (h : x ∈ A) : ∃ z, A.head? = some z := by
  cases A with
  | nil => simp at h
  | cons z A => exact ⟨z, rfl⟩

/-- Two sorted lists, cut so that what is ahead of the cuts is ahead of what is behind them. -/
theorem halves {X1 X2 Y1 Y2 : List Int} (hX : Srt key (X1 ++ X2)) (hY : Srt key (Y1 ++ Y2)) (hc : ∀ x ∈ X1 ++ X2, ∀ y ∈ Y1 ++ Y2, x < y)
    (h1 : ∀ x y, X1.getLast? = some x → Y2.head? = some y → ¬ key y < key x) (h2 : ∀ y x, Y1.getLast? = some y → X2.head? = some x → key y < key x) :
    srt key (X1 ++ Y1) ++ srt key (X2 ++ Y2) = srt key ((X1 ++ X2) ++ (Y1 ++ Y2)) := by
  rw [Srt, pairwise_append] at hX hY
  rw [srt_append]
  · apply srt_perm_eq
    rw [append_assoc, append_assoc]
    refine Perm.append_left X1 ?_
    rw [← append_assoc, ← append_assoc]
    exact Perm.append_right Y2 perm_append_comm
  · intro x hx y hy
    rw [mem_append] at hx hy
    rcases hx with hx | hx <;> rcases hy with hy | hy
    · exact hX.2.2 x hx y hy
    · obtain ⟨z, hz⟩ := last_ex hx
      obtain ⟨w, hw⟩ := head_ex hy
      have e1 := leB_key (le_last hX.1 hx hz)
      have e2 := leB_key (head_le hY.2.1 hy hw)
      have e3 := h1 z w hz hw
      exact leB_of (by omega) (hc x (by simp [hx]) y (by simp [hy]))
    · obtain ⟨z, hz⟩ := last_ex hx
      obtain ⟨w, hw⟩ := head_ex hy
      have e1 := leB_key (le_last hY.1 hx hz)
      have e2 := leB_key (head_le hX.2.1 hy hw)
      have e3 := h2 z w hz hw
      exact leB_lt (by omega)
    · exact hY.2.2 x hx y hy
end
end Go.V

namespace Go.V

/-- What a loop's body has to show, with what comes behind the loop as a word. -/
theorem vloop {G : List AV} {f : Env → Heap → (Exit → Env → Heap → Prop) → Prop} {E : Env} {H : Heap} {Q : Exit → Env → Heap → Prop} {X : Type} (mkE : X → Env) (mkH : X → Heap) (I : X → Prop) (μ : X → Nat) (x0 : X)
    (hw : Weak G E H (mkE x0) (mkH x0)) (h0 : I x0)
    (body : ∀ x, I x → ∀ Q' : Exit → Env → Heap → Prop, (∀ E' H', (∃ x', Weak G E' H' (mkE x') (mkH x') ∧ I x' ∧ μ x' < μ x) → Q' .normal E' H') →
      (∀ id E' H', Q (.exit id) E' H' → Q' (.exit id) E' H') → (∀ E' H', Q .ret E' H' → Q' .ret E' H') → f (mkE x) (mkH x) Q') : VLoop G f E H Q :=
  ⟨X, mkE, mkH, I, μ, x0, hw, h0, fun x hx => body x hx _ (fun _ _ h => h) (fun _ _ _ h => h) (fun _ _ h => h)⟩

/-- One part after another, the second as a word. -/
theorem vseq {P : Program} {Γ : Tab} {c : Cfg} {x y : Code} {E : Env} {H : Heap} {Q : Exit → Env → Heap → Prop}
    (h : ∀ Q' : Exit → Env → Heap → Prop, (∀ E' H', vwp P Γ c y E' H' Q → Q' .normal E' H') → (∀ id E' H', Q (.exit id) E' H' → Q' (.exit id) E' H') → (∀ E' H', Q .ret E' H' → Q' .ret E' H') → vwp P Γ c x E H Q') :
    vwp P Γ c (.seq x y) E H Q :=
  h _ (fun _ _ h => h) (fun _ _ _ h => h) (fun _ _ h => h)

/-- .. the second known to do from all that the first may leave. -/
theorem vjoin {P : Program} {Γ : Tab} {c : Cfg} {x y : Code} {E : Env} {H : Heap} {Q : Exit → Env → Heap → Prop} (R : Env → Heap → Prop)
    (h2 : ∀ E' H', R E' H' → vwp P Γ c y E' H' Q)
    (h1 : ∀ Q' : Exit → Env → Heap → Prop, (∀ E' H', R E' H' → Q' .normal E' H') → (∀ id E' H', Q (.exit id) E' H' → Q' (.exit id) E' H') → (∀ E' H', Q .ret E' H' → Q' .ret E' H') → vwp P Γ c x E H Q') :
    vwp P Γ c (.seq x y) E H Q :=
  h1 _ (fun E' H' h => h2 E' H' h) (fun _ _ _ h => h) (fun _ _ h => h)
end Go.V

namespace Go.V
open Go.RowKit

/-- What code comes to, from all that fits. -/
def SW (P : Program) (N : Nat) (G : List AV) (code : Code) (E : Env) (H : Heap) (Q : Exit → Env → Heap → Prop) : Prop :=
  ∀ (w0 : Base) (φ : Nat → Value) (a : Act) (w : World), w0.ga = G → St N w0 E H φ a w → code.wp P (Post N w0 Q) a w

section
variable {P : Program} {Γ : Tab} {E E' : Env} {H H' : Heap} {Q : Exit → Env → Heap → Prop}

theorem SW.of (hΓ : TabOK P Γ) (hm : P.follows .mixedOrders = true) (c : Cfg) {code : Code} (h : vwp P Γ c code E H Q) : SW P c.N c.gh code E H Q :=
  fun _ φ a w hg hs => vwp_sound hΓ hm c hg code E H Q h φ a w hs

theorem SW.weak {N : Nat} {G : List AV} {code : Code} (hw : Weak G E H E' H') (h : SW P N G code E' H' Q) : SW P N G code E H Q := by
  intro w0 φ a w hg hs
  subst hg
  obtain ⟨φ', hs'⟩ := hs.less hw
  exact h w0 φ' a w rfl hs'

/-- One part, and then the other, from what is known between them. -/
theorem SW.part (hΓ : TabOK P Γ) (hm : P.follows .mixedOrders = true) (c : Cfg) {x y : Code} {X : Type} (mkE : X → Env) (mkH : X → Heap) (I : X → Prop)
    (h1 : vwp P Γ c x E H (fun e E' H' => match e with
      | .normal => ∃ x, Weak c.gh E' H' (mkE x) (mkH x) ∧ I x
      | e => Q e E' H'))
    (h2 : ∀ x, I x → SW P c.N c.gh y (mkE x) (mkH x) Q) : SW P c.N c.gh (.seq x y) E H Q := by
  intro w0 φ a w hg hs
  refine wp_seq (wp_mono (vwp_sound hΓ hm c hg x E H _ h1 φ a w hs) ?_)
  rintro e a' w' ⟨E1, H1, φ1, hq, hs1⟩
  cases e with
  | normal =>
    obtain ⟨x, k1, k2⟩ := hq
    rw [← hg] at k1
    obtain ⟨φ2, hs2⟩ := hs1.less k1
    exact h2 x k2 w0 φ2 a' w' hg hs2
  | exit id => exact Post.of hq hs1
  | goto l => exact Post.of hq hs1
  | ret => exact Post.of hq hs1
  | panic ch => exact Post.of hq hs1
  | outgrown => exact Post.of hq hs1

def chain : List Code → Code → Code
  | [], y => y
  | x :: xs, y => .seq x (chain xs y)
def vchain (P : Program) (Γ : Tab) (c : Cfg) : List Code → Env → Heap → (Exit → Env → Heap → Prop) → Prop
  | [], E, H, K => K .normal E H
  | x :: xs, E, H, K => vwp P Γ c x E H fun e E' H' => match e with
    | .normal => vchain P Γ c xs E' H' K
    | e => K e E' H'

/-- Some parts, and then the others, from what is known between them. -/
theorem SW.parts (hΓ : TabOK P Γ) (hm : P.follows .mixedOrders = true) (c : Cfg) {y : Code} {X : Type} (mkE : X → Env) (mkH : X → Heap) (I : X → Prop)
    (h2 : ∀ x, I x → SW P c.N c.gh y (mkE x) (mkH x) Q) : ∀ (xs : List Code) {E : Env} {H : Heap},
    vchain P Γ c xs E H (fun e E' H' => match e with
      | .normal => ∃ x, Weak c.gh E' H' (mkE x) (mkH x) ∧ I x
      | e => Q e E' H') → SW P c.N c.gh (chain xs y) E H Q
  | [], E, H, ⟨x, k1, k2⟩ => SW.weak k1 (h2 x k2)
  | z :: xs, E, H, h1 => by
    intro w0 φ a w hg hs
    refine wp_seq (wp_mono (vwp_sound hΓ hm c hg z E H _ h1 φ a w hs) ?_)
    rintro e a' w' ⟨E1, H1, φ1, hq, hs1⟩
    cases e with
    | normal => exact SW.parts hΓ hm c mkE mkH I h2 xs hq w0 φ1 a' w' hg hs1
    | exit id => exact Post.of hq hs1
    | goto l => exact Post.of hq hs1
    | ret => exact Post.of hq hs1
    | panic ch => exact Post.of hq hs1
    | outgrown => exact Post.of hq hs1

theorem conW_sw {f : FuncId} {fn : Func} {c : Code} {args : List AV} {Ha : Heap} {r : AV} {Hr : Heap} (hΓ : TabOK P Γ) (N : Nat)
    (hf : P.funcs[f]? = some fn) (hname : (fn.name == "runtime.NumGoroutine") = false) (hb : fn.body = some c) (hN : fn.ntmps = N) (hlen : Nat.ble args.length N = true)
    (ho : once Ha = true) (h : SW P N (ghosts Ha) c (number 0 args) Ha (vend (ghosts Ha) Γ fn.results.toList r Hr)) : ConW P f args Ha r Hr := by
  intro w0 w φ vs hsim hvs
  have hl := hvs.length
  have hle := Nat.le_of_ble_eq_true hlen
  have hrun : (callFunc f vs.toArray).run P w = .ok (.enter f vs.toArray) w := by
    have hp : (program).run P w = .ok P w := rfl
    simp only [callFunc, Sem.run_bind, hp, Result.andThen_ok, hf, hname, hb, Option.isNone, Bool.false_eq_true, if_false, Sem.run_pure]
  unfold CallsF
  rw [hrun]
  refine calls_of_wp hf hb ?_
  obtain ⟨us, hus, hgk⟩ := ghosts_rel hsim Ha (fun _ _ h => h) ho
  have hst : St N (w0.with (ghosts Ha) us) (number 0 args) Ha φ { tmps := vs.toArray ++ Array.replicate (fn.ntmps - vs.toArray.size) undef, defers := [] } w := by
    refine ⟨⟨⟨hsim.below.os, hsim.below.tape, hsim.below.output, hsim.below.size, hsim.below.block⟩, hsim.good, hsim.fresh, hsim.inj, fun w' k => hsim.keep w' ⟨k.os, k.tape, k.output, k.size, k.block⟩⟩, fun s => ?_, rfl, by simp; omega, hus⟩
    rw [number_get]
    simp only [Nat.not_lt_zero, if_false, Nat.sub_zero]
    cases ha : args[s]? with
    | none => simp only [Option.getD_none, Rel]
    | some av =>
      obtain ⟨u, h1, h2⟩ := RelL.get hvs s av ha
      simp only [Option.getD_some]
      have hs : s < vs.length := (List.getElem?_eq_some_iff.1 h1).1
      have : (vs.toArray ++ Array.replicate (fn.ntmps - vs.toArray.size) undef).getD s undef = u := by
        simp only [Array.getD_eq_getD_getElem?]
        rw [Array.getElem?_append_left (by simpa using hs)]
        simp [h1]
      rw [this]
      exact h2
  have fin : ∀ (E' : Env) (H' : Heap) (φ' : Nat → Value) (a' : Act) (w' : World), St N (w0.with (ghosts Ha) us) E' H' φ' a' w' → vret (ghosts Ha) Γ fn.results.toList E' H' r Hr →
      a'.defers = [] ∧ ∃ v, (results fn a'.tmps).run P w' = .ok v w' ∧ ∃ v', Ending.returned v = Ending.returned v' ∧ ∃ φ', Sim w0 w' φ' Hr ∧ Rel w' (Gr w0 φ' Hr) (Gr w0 φ' Hr) φ' Hr r v' ∧
        ∀ id C C', hget Ha id = some C → hget Hr id = some C' → kindB C C' = true → φ' id = φ id := by
    intro E' H' φ' a' w' hs' hq
    obtain ⟨v, φ2, h1, h2, h3, h4⟩ := vret_run hΓ hs' hq
    exact ⟨hs'.defers, v, h1, v, rfl, φ2, ⟨⟨h2.below.os, h2.below.tape, h2.below.output, h2.below.size, h2.below.block⟩, h2.good, h2.fresh, h2.inj, hsim.keep⟩, h3, hgk w' _ _ φ2 Hr h4⟩
  refine wp_mono (h (w0.with (ghosts Ha) us) φ _ _ rfl hst) ?_
  rintro e a' w' ⟨E', H', φ', hq, hs'⟩
  cases e with
  | normal => exact fin E' H' φ' a' w' hs' hq
  | ret => exact fin E' H' φ' a' w' hs' hq
  | exit id => exact hq.elim
  | goto l => exact hq.elim
  | panic ch => exact hq.elim
  | outgrown => exact hq.elim

theorem con_sw {f : FuncId} {fn : Func} {c : Code} {args : List AV} {r : AV} {Hr : Heap} (hΓ : TabOK P Γ) (N : Nat)
    (hf : P.funcs[f]? = some fn) (hname : (fn.name == "runtime.NumGoroutine") = false) (hb : fn.body = some c) (hN : fn.ntmps = N) (hlen : Nat.ble args.length N = true)
    (h : SW P N [] c (number 0 args) [] (vend [] Γ fn.results.toList r Hr)) : Con P f args r Hr :=
  con_conW (conW_sw hΓ N hf hname hb hN hlen rfl h)
def bodyOf (P : Program) (f : FuncId) : Code := match P.funcs[f]? with
  | some fn => match fn.body with
    | some c => c
    | none => .skip
  | none => .skip
def resOf (P : Program) (f : FuncId) : List ResultVar := match P.funcs[f]? with
  | some fn => fn.results.toList
  | none => []
def drp : Nat → Code → Code
  | 0, c => c
  | n + 1, .seq _ y => drp n y
  | _ + 1, c => c

/-- What is left of a function behind its first parts. -/
def SF (P : Program) (Γ : Tab) (N : Nat) (G : List AV) (f : FuncId) (n : Nat) (E : Env) (H : Heap) (r : AV) (Hr : Heap) : Prop :=
  SW P N G (drp n (bodyOf P f)) E H (vend G Γ (resOf P f) r Hr)

theorem SF.con {f : FuncId} {fn : Func} {c : Code} {args : List AV} {Ha : Heap} {r : AV} {Hr : Heap} (hΓ : TabOK P Γ) (N : Nat)
    (hf : P.funcs[f]? = some fn) (hname : (fn.name == "runtime.NumGoroutine") = false) (hb : fn.body = some c) (hN : fn.ntmps = N) (hlen : Nat.ble args.length N = true)
    (ho : once Ha = true) (h : SF P Γ N (ghosts Ha) f 0 (number 0 args) Ha r Hr) : ConW P f args Ha r Hr := by
  refine conW_sw hΓ N hf hname hb hN hlen ho ?_
  unfold SF drp bodyOf resOf at h
  simp only [hf, hb] at h
  exact h
theorem SF.con0 {f : FuncId} {fn : Func} {c : Code} {args : List AV} {r : AV} {Hr : Heap} (hΓ : TabOK P Γ) (N : Nat)
    (hf : P.funcs[f]? = some fn) (hname : (fn.name == "runtime.NumGoroutine") = false) (hb : fn.body = some c) (hN : fn.ntmps = N) (hlen : Nat.ble args.length N = true)
    (h : SF P Γ N [] f 0 (number 0 args) [] r Hr) : Con P f args r Hr := con_conW (SF.con hΓ N hf hname hb hN hlen rfl h)

/-- The next 'k' parts. -/
def takeP : Nat → Code → List Code
  | 0, _ => []
  | k + 1, .seq x y => x :: takeP k y
  | _ + 1, _ => []

theorem chain_take : ∀ (k : Nat) (c : Code), (takeP k c).length = k → chain (takeP k c) (drp k c) = c
  | 0, c, _ => rfl
  | k + 1, .seq x y, h => by
    simp only [takeP, List.length_cons, Nat.add_right_cancel_iff] at h
    simp only [takeP, chain, drp, chain_take k y h]
  | k + 1, .skip, h => by simp [takeP] at h
  | k + 1, .label _, h => by simp [takeP] at h
  | k + 1, .exit _, h => by simp [takeP] at h
  | k + 1, .ret, h => by simp [takeP] at h
  | k + 1, .cond _ _ _, h => by simp [takeP] at h
  | k + 1, .block _ _, h => by simp [takeP] at h
  | k + 1, .loop _, h => by simp [takeP] at h
  | k + 1, .region _ _ _, h => by simp [takeP] at h
  | k + 1, .rangeFunc _ _ _ _, h => by simp [takeP] at h
  | k + 1, .scope _, h => by simp [takeP] at h
  | k + 1, .goto _, h => by simp [takeP] at h
  | k + 1, .refuse _, h => by simp [takeP] at h

theorem drp_drp : ∀ (n k : Nat) (c : Code), (takeP n c).length = n → drp k (drp n c) = drp (n + k) c
  | 0, k, c, _ => by rw [Nat.zero_add]; rfl
  | n + 1, k, .seq x y, h => by
    simp only [takeP, List.length_cons, Nat.add_right_cancel_iff] at h
    rw [show n + 1 + k = (n + k) + 1 by omega]
    simp only [drp, drp_drp n k y h]
  | n + 1, _, .skip, h => by simp [takeP] at h
  | n + 1, _, .label _, h => by simp [takeP] at h
  | n + 1, _, .exit _, h => by simp [takeP] at h
  | n + 1, _, .ret, h => by simp [takeP] at h
  | n + 1, _, .cond _ _ _, h => by simp [takeP] at h
  | n + 1, _, .block _ _, h => by simp [takeP] at h
  | n + 1, _, .loop _, h => by simp [takeP] at h
  | n + 1, _, .region _ _ _, h => by simp [takeP] at h
  | n + 1, _, .rangeFunc _ _ _ _, h => by simp [takeP] at h
  | n + 1, _, .scope _, h => by simp [takeP] at h
  | n + 1, _, .goto _, h => by simp [takeP] at h
  | n + 1, _, .refuse _, h => by simp [takeP] at h

/-- 'k' parts of a function, behind its first 'n'. -/
theorem SF.parts (hΓ : TabOK P Γ) (hm : P.follows .mixedOrders = true) {f : FuncId} {r : AV} {Hr : Heap} (n k : Nat) (c : Cfg) {X : Type} (mkE : X → Env) (mkH : X → Heap) (I : X → Prop)
    (hk : ((takeP n (bodyOf P f)).length == n && (takeP k (drp n (bodyOf P f))).length == k) = true)
    (h1 : vchain P Γ c (takeP k (drp n (bodyOf P f))) E H (fun e E' H' => match e with
      | .normal => ∃ x, Weak c.gh E' H' (mkE x) (mkH x) ∧ I x
      | e => vend c.gh Γ (resOf P f) r Hr e E' H'))
    (h2 : ∀ x, I x → SF P Γ c.N c.gh f (n + k) (mkE x) (mkH x) r Hr) : SF P Γ c.N c.gh f n E H r Hr := by
  simp only [Bool.and_eq_true, beq_iff_eq] at hk
  unfold SF
  rw [← chain_take k (drp n (bodyOf P f)) hk.2]
  refine SW.parts hΓ hm c mkE mkH I ?_ _ h1
  intro x hx
  have := h2 x hx
  unfold SF at this
  rw [drp_drp _ _ _ hk.1]
  exact this

/-- The last parts of a function. -/
theorem SF.last (hΓ : TabOK P Γ) (hm : P.follows .mixedOrders = true) {f : FuncId} {r : AV} {Hr : Heap} (n : Nat) (c : Cfg)
    (h : vwp P Γ c (drp n (bodyOf P f)) E H (vend c.gh Γ (resOf P f) r Hr)) : SF P Γ c.N c.gh f n E H r Hr := SW.of hΓ hm c h
end
end Go.V

namespace Go.V
open List

section
variable {key : Int → Int}

/-- Each block of so many in order. -/
def sb (key : Int → Int) (bs : Nat) (s : List Int) : List Int :=
  if bs = 0 ∨ s.length ≤ bs then srt key s else srt key (s.take bs) ++ sb key bs (s.drop bs)
  termination_by s.length
  decreasing_by simp only [List.length_drop]; omega

theorem sb_short {bs : Nat} {s : List Int} (h : s.length ≤ bs) : sb key bs s = srt key s := by
  rw [sb, if_pos (.inr h)]
theorem srt_nil : srt key [] = [] := by simp [srt]
theorem sb_step {bs : Nat} {s : List Int} (h0 : 0 < bs) (h : bs ≤ s.length) : sb key bs s = srt key (s.take bs) ++ sb key bs (s.drop bs) := by
  rcases Nat.lt_or_ge bs s.length with hl | hl
  · rw [sb, if_neg (by omega)]
  · rw [sb_short hl, take_of_length_le hl, drop_eq_nil_of_le hl, sb_short (by simp), srt_nil, append_nil]
theorem sb_perm {bs : Nat} (h0 : 0 < bs) : ∀ (n : Nat) (s : List Int), s.length ≤ n → sb key bs s ~ s
  | 0, s, h => by rw [sb_short (by omega)]; exact srt_perm s
  | n + 1, s, h => by
    rcases Nat.lt_or_ge s.length bs with hl | hl
    · rw [sb_short (by omega)]; exact srt_perm s
    · rw [sb_step h0 hl]
      refine ((srt_perm _).append (sb_perm h0 n _ (by rw [length_drop]; omega))).trans ?_
      rw [take_append_drop]
theorem sb_len {bs : Nat} (h0 : 0 < bs) (s : List Int) : (sb key bs s).length = s.length := (sb_perm h0 _ s (Nat.le_refl _)).length_eq

theorem srt_two (U V : List Int) : srt key (srt key U ++ srt key V) = srt key (U ++ V) := srt_perm_eq ((srt_perm U).append (srt_perm V))

theorem take_two (s : List Int) (n : Nat) : s.take (n + n) = s.take n ++ (s.drop n).take n := by
  rw [List.take_add]

theorem cross {d : List Int} (h : d.Pairwise (· < ·)) (n : Nat) : ∀ x ∈ d.take n, ∀ y ∈ d.drop n, x < y := by
  have := h
  rw [← take_append_drop n d, pairwise_append] at this
  exact this.2.2
end
end Go.V

set_option exponentiation.threshold 4000
namespace Go.V
open Ieee

theorem cut_le {neg : Bool} {n drop M : Nat} (h : n ≤ M * 2 ^ drop) : Toward.even.cut neg n drop ≤ M := by
  unfold Toward.cut
  simp only [Nat.one_shiftLeft]
  by_cases hd : drop ≤ n.log2 + 2
  · rw [Nat.min_eq_left hd]
    have hp : 0 < 2 ^ drop := Nat.two_pow_pos _
    have h1 : n / 2 ^ drop ≤ M := Nat.div_le_of_le_mul (by rw [Nat.mul_comm]; exact h)
    by_cases hr : n % 2 ^ drop = 0
    · rw [hr]
      have e1 : decide (2 ^ drop < 2 * 0) = false := by simp
      have e2 : (2 ^ drop == 2 * 0) = false := by rw [Nat.mul_zero, beq_eq_false_iff_ne]; omega
      rw [e1, e2]
      simpa using h1
    · have h2 : n / 2 ^ drop < M := by
        rcases Nat.lt_or_ge (n / 2 ^ drop) M with h3 | h3
        · exact h3
        · exfalso
          have h4 := Nat.div_add_mod n (2 ^ drop)
          have h5 : 2 ^ drop * M ≤ 2 ^ drop * (n / 2 ^ drop) := Nat.mul_le_mul_left _ h3
          rw [Nat.mul_comm M] at h
          omega
      have h3 : ∀ b : Bool, b.toNat ≤ 1 := fun b => by cases b <;> decide
      exact Nat.le_trans (Nat.add_le_add_left (h3 _) _) h2
  · rw [Nat.min_eq_right (by omega)]
    have h1 : n < 2 ^ (n.log2 + 1) := Nat.lt_log2_self
    have h2 : 2 ^ (n.log2 + 2) = 2 * 2 ^ (n.log2 + 1) := by rw [Nat.pow_succ, Nat.mul_comm]
    have e0 : n / 2 ^ (n.log2 + 2) = 0 := Nat.div_eq_of_lt (by omega)
    have e1 : n % 2 ^ (n.log2 + 2) = n := Nat.mod_eq_of_lt (by omega)
    rw [e0, e1]
    have e2 : decide (2 ^ (n.log2 + 2) < 2 * n) = false := by rw [decide_eq_false_iff_not]; omega
    have e3 : (2 ^ (n.log2 + 2) == 2 * n) = false := by rw [beq_eq_false_iff_ne]; omega
    rw [e2, e3]
    simp

theorem cut_ge {neg : Bool} {n drop M : Nat} (h : M * 2 ^ drop ≤ n) (h0 : 0 < M) : M ≤ Toward.even.cut neg n drop := by
  unfold Toward.cut
  simp only [Nat.one_shiftLeft]
  have hd : drop ≤ n.log2 := by
    have : 2 ^ drop ≤ n := Nat.le_trans (Nat.le_mul_of_pos_left _ h0) h
    exact (Nat.le_log2 (by have := Nat.two_pow_pos drop; omega)).2 this
  rw [Nat.min_eq_left (by omega)]
  have h1 : M ≤ n / 2 ^ drop := (Nat.le_div_iff_mul_le (Nat.two_pow_pos _)).2 h
  omega

theorem cut_down {n drop M : Nat} (h : n ≤ M * 2 ^ drop) : Toward.down.cut false n drop ≤ M := by
  unfold Toward.cut
  simp only [Nat.one_shiftLeft, Bool.false_and, Bool.toNat_false, Nat.add_zero]
  by_cases hd : drop ≤ n.log2 + 2
  · rw [Nat.min_eq_left hd]
    exact Nat.div_le_of_le_mul (by rw [Nat.mul_comm]; exact h)
  · rw [Nat.min_eq_right (by omega)]
    have h1 : n < 2 ^ (n.log2 + 1) := Nat.lt_log2_self
    have h2 : 2 ^ (n.log2 + 2) = 2 * 2 ^ (n.log2 + 1) := by rw [Nat.pow_succ, Nat.mul_comm]
    rw [Nat.div_eq_of_lt (by omega)]
    exact Nat.zero_le _

theorem read_rung (f : Format) (neg : Bool) {e kept : Nat} (h1 : kept ≤ 2 * f.binade) (h2 : 0 < e → f.binade ≤ kept) (h3 : e * f.binade + kept < f.infRung) :
    ∃ m d : Nat, f.read (f.word neg (e * f.binade + kept)) = .number neg m (f.leastPlace + (d : Int)) ∧ m * 2 ^ d = kept * 2 ^ e := by
  have hB : 0 < f.binade := Nat.two_pow_pos _
  have hs := f.infRung_lt
  have hR : e * f.binade + kept < f.signWeight := by omega
  have hmod : f.word neg (e * f.binade + kept) % f.signWeight = e * f.binade + kept := by
    unfold Format.word
    cases neg
    · rw [if_neg (by decide), Nat.mod_eq_of_lt hR]
    · rw [if_pos rfl, Nat.add_mod_left, Nat.mod_eq_of_lt hR]
  have hneg : (f.word neg (e * f.binade + kept) / f.signWeight % 2 == 1) = neg := by
    unfold Format.word
    have hp : 0 < f.signWeight := by omega
    cases neg
    · rw [if_neg (by decide), Nat.div_eq_of_lt hR]; rfl
    · rw [if_pos rfl, Nat.add_div_left _ hp, Nat.div_eq_of_lt hR]; rfl
  unfold Format.read
  simp only [hmod, hneg]
  by_cases c0 : e * f.binade + kept < f.binade
  · rw [if_pos c0]
    have he : e = 0 := by
      rcases Nat.eq_zero_or_pos e with h | h
      · exact h
      · have := h2 h; omega
    subst he
    rw [Nat.zero_mul, Nat.zero_add]
    exact ⟨kept, 0, by simp, by simp⟩
  · rw [if_neg c0, if_pos h3]
    have hq : (e * f.binade + kept) / f.binade = e + kept / f.binade := by rw [Nat.add_comm, Nat.add_mul_div_right _ _ hB, Nat.add_comm]
    have hr : (e * f.binade + kept) % f.binade = kept % f.binade := by rw [Nat.add_comm, Nat.add_mul_mod_self_right]
    rw [hq, hr]
    refine ⟨_, e + kept / f.binade - 1, rfl, ?_⟩
    have hk : f.binade ≤ kept := by
      rcases Nat.eq_zero_or_pos e with h | h
      · subst h; omega
      · exact h2 h
    by_cases c1 : kept = 2 * f.binade
    · rw [c1, Nat.mul_mod_left, Nat.mul_div_left _ hB, show e + 2 - 1 = e + 1 by omega, Nat.pow_succ]
      generalize 2 ^ e = z
      rw [Nat.add_zero, Nat.mul_comm z 2, ← Nat.mul_assoc, Nat.mul_comm f.binade 2]
    · have e1 : kept / f.binade = 1 := Nat.div_eq_of_lt_le (by omega) (by omega)
      have e2 := Nat.div_add_mod kept f.binade
      rw [e1] at e2 ⊢
      rw [show f.binade + kept % f.binade = kept by omega, show e + 1 - 1 = e by omega]

/-- What is kept of a number: 'e' places above the least. -/
theorem nearest_eq (f : Format) (neg : Bool) {mag : Nat} (place : Int) (hm : mag ≠ 0) :
    ∃ e kept : Nat, f.nearest neg mag place = f.word neg (min (e * f.binade + kept) f.infRung) ∧ kept ≤ 2 * f.binade ∧ (0 < e → f.binade ≤ kept) ∧
      (e : Int) = max (place + mag.log2 - f.fractionBits) f.leastPlace - f.leastPlace ∧
      kept = Toward.even.cut neg (mag <<< (place - (f.leastPlace + e)).toNat) (f.leastPlace + e - place).toNat := by
  obtain ⟨last, hl⟩ : ∃ last, last = max (place + mag.log2 - f.fractionBits) f.leastPlace := ⟨_, rfl⟩
  have he : ((last - f.leastPlace).toNat : Int) = last - f.leastPlace := Int.toNat_of_nonneg (by omega)
  refine ⟨(last - f.leastPlace).toNat, _, ?_, ?_, ?_, by rw [he, hl], rfl⟩
  · unfold Format.nearest
    rw [if_neg hm]
    simp only [← hl, he]
    rw [show f.leastPlace + (last - f.leastPlace) = last by omega]
  · rw [he, show f.leastPlace + (last - f.leastPlace) = last by omega]
    apply cut_le
    rw [Nat.shiftLeft_eq]
    have h1 : mag < 2 ^ (mag.log2 + 1) := Nat.lt_log2_self
    have h2 : mag.log2 + 1 + (place - last).toNat ≤ 1 + f.fractionBits + (last - place).toNat := by omega
    have h3 : mag * 2 ^ (place - last).toNat ≤ 2 ^ (mag.log2 + 1) * 2 ^ (place - last).toNat := Nat.mul_le_mul_right _ (Nat.le_of_lt h1)
    rw [← Nat.pow_add] at h3
    refine Nat.le_trans h3 (Nat.le_trans (Nat.pow_le_pow_right (by decide) h2) (Nat.le_of_eq ?_))
    unfold Format.binade
    rw [Nat.pow_add, Nat.pow_add]
  · intro h0
    rw [he, show f.leastPlace + (last - f.leastPlace) = last by omega]
    apply cut_ge _ (Nat.two_pow_pos _)
    rw [Nat.shiftLeft_eq]
    have h1 : 2 ^ mag.log2 ≤ mag := Nat.log2_self_le hm
    have h2 : f.fractionBits + (last - place).toNat = mag.log2 + (place - last).toNat := by omega
    rw [← Nat.pow_add, h2, Nat.pow_add]
    exact Nat.mul_le_mul_right _ h1

/-- A number that is at most 'm' is rounded to one that is. -/
theorem nearest_le (f : Format) (neg : Bool) {mag m L : Nat} {place : Int} (hm : mag ≠ 0) (hL : f.leastPlace = -(L : Int)) (hp : -(2 * L : Int) ≤ place) (hv : mag * 2 ^ (place + 2 * L).toNat ≤ m * 2 ^ (2 * L))
    (hm2 : m < f.binade) (hi : (L + 3) * f.binade ≤ f.infRung) :
    ∃ m' d : Nat, f.read (f.nearest neg mag place) = .number neg m' (f.leastPlace + (d : Int)) ∧ m' * 2 ^ d ≤ m * 2 ^ L := by
  obtain ⟨e, kept, h1, h2, h3, h4, h5⟩ := nearest_eq f neg place hm
  have hB : 0 < f.binade := Nat.two_pow_pos _
  -- the number is below 2 ^ fractionBits
  have hlog : place + mag.log2 < f.fractionBits := by
    have a1 : 2 ^ mag.log2 ≤ mag := Nat.log2_self_le hm
    have a2 : 2 ^ mag.log2 * 2 ^ (place + 2 * L).toNat < f.binade * 2 ^ (2 * L) :=
      Nat.lt_of_le_of_lt (Nat.le_trans (Nat.mul_le_mul_right _ a1) hv) (Nat.mul_lt_mul_of_pos_right hm2 (Nat.two_pow_pos _))
    unfold Format.binade at a2
    rw [← Nat.pow_add, ← Nat.pow_add] at a2
    have := (Nat.pow_lt_pow_iff_right (by decide)).1 a2
    omega
  have he : e ≤ L := by omega
  have hk : kept ≤ m * 2 ^ (L - e) := by
    rw [h5]
    apply cut_le
    rw [Nat.shiftLeft_eq, hL]
    have a1 : (place - (-(L : Int) + e)).toNat + (L + e) = (place + 2 * L).toNat + (-(L : Int) + e - place).toNat := by omega
    have a2 : mag * 2 ^ (place - (-(L : Int) + e)).toNat * 2 ^ (L + e) ≤ m * 2 ^ (L - e) * 2 ^ (-(L : Int) + e - place).toNat * 2 ^ (L + e) := by
      rw [Nat.mul_assoc mag, ← Nat.pow_add, a1, Nat.pow_add, ← Nat.mul_assoc]
      have a3 := Nat.mul_le_mul_right (2 ^ (-(L : Int) + e - place).toNat) hv
      refine Nat.le_trans a3 (Nat.le_of_eq ?_)
      rw [Nat.mul_assoc, Nat.mul_assoc, Nat.mul_assoc, ← Nat.pow_add, ← Nat.pow_add, ← Nat.pow_add]
      congr 2; omega
    exact Nat.le_of_mul_le_mul_right a2 (Nat.two_pow_pos _)
  have hlt : e * f.binade + kept < f.infRung := by
    have : e * f.binade ≤ L * f.binade := Nat.mul_le_mul_right _ he
    have e3 : (L + 3) * f.binade = L * f.binade + 3 * f.binade := Nat.add_mul _ _ _
    omega
  obtain ⟨m', d, k1, k2⟩ := read_rung f neg h2 h3 hlt
  refine ⟨m', d, by rw [h1, Nat.min_eq_left (by omega)]; exact k1, ?_⟩
  rw [k2]
  refine Nat.le_trans (Nat.mul_le_mul_right _ hk) (Nat.le_of_eq ?_)
  rw [Nat.mul_assoc, ← Nat.pow_add, show L - e + e = L by omega]

theorem nearest_zero (k : FloatKind) (neg : Bool) (place : Int) : k.format.read (k.format.nearest neg 0 place) = .number neg 0 k.format.leastPlace := by
  unfold Format.nearest
  rw [if_pos rfl]
  cases k <;> cases neg <;> decide +kernel

theorem kap_num {k : FloatKind} {b : Nat} {s : Bool} {m : Nat} {i : Int} (h : k.format.read b = .number s m i) : kap k b = if s then -((m : Int) * 2 ^ (i - k.format.leastPlace).toNat) else (m : Int) * 2 ^ (i - k.format.leastPlace).toNat := by
  unfold kap
  rw [h, ← signed_eq]

theorem isNum {k : FloatKind} {b : Nat} (h : isNan k b = false) (h1 : -(huge : Int) < kap k b) (h2 : kap k b < huge) : ∃ s m i, k.format.read b = .number s m i := by
  unfold isNan at h
  unfold kap at h1 h2
  cases hr : k.format.read b with
  | nan s t => rw [hr] at h; cases h
  | infinity s =>
    rw [hr] at h1 h2
    generalize (huge : Int) = g at *
    cases s <;> simp at h1 h2
  | number s m i => exact ⟨s, m, i, rfl⟩

theorem pow_le_huge {n : Nat} (h : n < 2960) : ((2 ^ n : Nat) : Int) < (huge : Int) := Int.ofNat_lt.2 (Nat.lt_of_lt_of_le (Nat.pow_lt_pow_right (by decide) (show n < 3000 by omega)) (Nat.le_of_eq huge_eq.symm))

/-- A word that stands for a number from 0 to 'v' ('v' counts the least steps). -/
def Upto (k : FloatKind) (b v : Nat) : Prop := ∃ (s : Bool) (m i : Nat), k.format.read b = .number s m (k.format.leastPlace + (i : Int)) ∧ m * 2 ^ i ≤ v ∧ (s = true → m = 0)

theorem canon_num {k : FloatKind} {b : Nat} {s : Bool} {m : Nat} {i : Int} (h : k.format.read b = .number s m i) : canon k b = b := by
  unfold canon isNan
  rw [h]; rfl

theorem mul_upto {x y m : Nat} (hx : Upto .f32 x (2 ^ 149)) (hy : Upto .f32 y (m * 2 ^ 149)) (hm : m < 8388608) : Upto .f32 (fmul .f32 x y) (m * 2 ^ 149) := by
  have eL : FloatKind.f32.format.leastPlace = -((149 : Nat) : Int) := by decide +kernel
  obtain ⟨s, mx, ix, h1, h2, h3⟩ := hx
  obtain ⟨t, my, iy, g1, g2, g3⟩ := hy
  unfold fmul fres Format.mul
  rw [h1, g1]
  simp only [Datum.product, Option.map_some, Format.write]
  have hz : (s ^^ t) = true → mx * my = 0 := by
    intro h
    cases s <;> cases t <;> simp at h
    · rw [g3 rfl, Nat.mul_zero]
    · rw [h3 rfl, Nat.zero_mul]
  by_cases h0 : mx * my = 0
  · rw [h0]
    have := nearest_zero .f32 (s ^^ t) (FloatKind.f32.format.leastPlace + (ix : Int) + (FloatKind.f32.format.leastPlace + (iy : Int)))
    rw [canon_num this]
    exact ⟨_, 0, 0, by simpa using this, by simp, fun _ => rfl⟩
  · obtain ⟨m', d, k1, k2⟩ := nearest_le FloatKind.f32.format (s ^^ t) (mag := mx * my) (m := m) (L := 149) (place := FloatKind.f32.format.leastPlace + (ix : Int) + (FloatKind.f32.format.leastPlace + (iy : Int))) h0 eL (by rw [eL]; omega) (by
      rw [eL, show (-((149 : Nat) : Int) + (ix : Int) + (-((149 : Nat) : Int) + (iy : Int)) + 2 * ((149 : Nat) : Int)).toNat = ix + iy by omega, Nat.pow_add]
      have := Nat.mul_le_mul h2 g2
      refine Nat.le_trans (Nat.le_of_eq ?_) (Nat.le_trans this (Nat.le_of_eq ?_))
      · rw [Nat.mul_assoc, Nat.mul_assoc, Nat.mul_left_comm my]
      · rw [Nat.mul_left_comm, ← Nat.pow_add]) (by rw [show FloatKind.f32.format.binade = 8388608 by decide +kernel]; exact hm) (by decide +kernel)
    rw [canon_num k1]
    refine ⟨_, m', d, k1, k2, fun h => ?_⟩
    exact absurd (hz h) h0

theorem widen_upto {x m : Nat} (hx : Upto .f32 x (m * 2 ^ 149)) (hm : m < 8388608) : Upto .f64 (fcvt .f32 .f64 x) (m * 2 ^ 1074) := by
  have eL : FloatKind.f64.format.leastPlace = -((1074 : Nat) : Int) := by decide +kernel
  have eL' : FloatKind.f32.format.leastPlace = -((149 : Nat) : Int) := by decide +kernel
  obtain ⟨s, mx, ix, h1, h2, h3⟩ := hx
  unfold fcvt FloatKind.decode FloatKind.encode
  rw [if_neg (by decide), h1]
  simp only [Format.write]
  by_cases h0 : mx = 0
  · rw [h0]
    have := nearest_zero .f64 s (FloatKind.f32.format.leastPlace + (ix : Int))
    rw [canon_num this]
    exact ⟨_, 0, 0, by simpa using this, by simp, fun _ => rfl⟩
  · obtain ⟨m', d, k1, k2⟩ := nearest_le FloatKind.f64.format s (mag := mx) (m := m) (L := 1074) (place := FloatKind.f32.format.leastPlace + (ix : Int)) h0 eL (by rw [eL']; omega) (by
      rw [eL', show (-((149 : Nat) : Int) + (ix : Int) + 2 * ((1074 : Nat) : Int)).toNat = ix + 1999 by omega, Nat.pow_add, ← Nat.mul_assoc, show (2 : Nat) ^ (2 * 1074) = 2 ^ 149 * 2 ^ 1999 by rw [← Nat.pow_add], ← Nat.mul_assoc]
      exact Nat.mul_le_mul_right _ h2) (by rw [show FloatKind.f64.format.binade = 4503599627370496 by decide +kernel]; omega) (by decide +kernel)
    rw [canon_num k1]
    exact ⟨_, m', d, k1, k2, fun h => absurd (h3 h) h0⟩

def nums : Bool := (List.range 128).all fun n => (f2i .f64 (canon .f64 (FloatKind.f64.encode (.number false n 0))) .i64 == some (n : Int)) && ((n == 0) == (f2i .f64 (canon .f64 (FloatKind.f64.encode (.number true n 0))) .i64 == some (0 : Int)))

theorem floor_upto {x m : Nat} (hx : Upto .f64 x (m * 2 ^ 1074)) (hm : m < 128) : ∃ n : Nat, f2i .f64 (fint .down x) .i64 = some (n : Int) ∧ n ≤ m := by
  have eL : FloatKind.f64.format.leastPlace = -((1074 : Nat) : Int) := by decide +kernel
  obtain ⟨s, mx, ix, h1, h2, h3⟩ := hx
  have hd : nums = true := by decide +kernel
  unfold nums at hd
  rw [List.all_eq_true] at hd
  have hn : isNan .f64 x = false := by unfold isNan; rw [h1]; rfl
  unfold fint FloatKind.decode
  rw [hn, h1, eL]
  simp only [Bool.false_eq_true, if_false, Datum.integral]
  by_cases h0 : mx = 0
  · subst h0
    have e1 : ∀ g a b, Toward.down.cut g (0 <<< a) b = 0 := by
      intro g a b
      simp [Toward.cut]
    rw [e1]
    refine ⟨0, ?_, Nat.zero_le _⟩
    cases s <;> decide +kernel
  · have hs : s = false := by
      cases s
      · rfl
      · exact absurd (h3 rfl) h0
    subst hs
    have hc : Toward.down.cut false (mx <<< (-((1074 : Nat) : Int) + (ix : Int)).toNat) (-(-((1074 : Nat) : Int) + (ix : Int))).toNat ≤ m := by
      apply cut_down
      rw [Nat.shiftLeft_eq]
      have a1 : (-((1074 : Nat) : Int) + (ix : Int)).toNat + 1074 = ix + (-(-((1074 : Nat) : Int) + (ix : Int))).toNat := by omega
      have a2 : mx * 2 ^ (-((1074 : Nat) : Int) + (ix : Int)).toNat * 2 ^ 1074 ≤ m * 2 ^ (-(-((1074 : Nat) : Int) + (ix : Int))).toNat * 2 ^ 1074 := by
        rw [Nat.mul_assoc mx, ← Nat.pow_add, a1, Nat.pow_add, ← Nat.mul_assoc]
        refine Nat.le_trans (Nat.mul_le_mul_right _ h2) (Nat.le_of_eq ?_)
        rw [Nat.mul_assoc, Nat.mul_assoc, Nat.mul_comm (2 ^ 1074)]
      exact Nat.le_of_mul_le_mul_right a2 (Nat.two_pow_pos _)
    generalize Toward.down.cut false (mx <<< (-((1074 : Nat) : Int) + (ix : Int)).toNat) (-(-((1074 : Nat) : Int) + (ix : Int))).toNat = n at hc
    have := hd n (List.mem_range.2 (by omega))
    rw [Bool.and_eq_true, beq_iff_eq] at this
    exact ⟨n, this.1, hc⟩

def smalls : Bool := (List.range 128).all fun n => match FloatKind.f32.format.read (fofInt .f32 (n : Int)) with
  | .number false m i => decide (-149 ≤ i ∧ m * 2 ^ (i + 149).toNat = n * 2 ^ 149)
  | _ => false
theorem ofInt_upto {m : Nat} (hm : m < 128) : Upto .f32 (fofInt .f32 (m : Int)) (m * 2 ^ 149) := by
  have eL : FloatKind.f32.format.leastPlace = -149 := by decide +kernel
  have hd : smalls = true := by decide +kernel
  unfold smalls at hd
  rw [List.all_eq_true] at hd
  have := hd m (List.mem_range.2 hm)
  split at this
  · rename_i mx i e
    have := of_decide_eq_true this
    refine ⟨false, mx, (i + 149).toNat, ?_, Nat.le_of_eq this.2, fun h => by cases h⟩
    rw [e, eL]
    congr 1
    omega
  · cases this

/-- What is a share. -/
theorem share_upto {x : Nat} (h1 : (fgt .f32 x 0 || feq .f32 x 0) = true) (h2 : (flt .f32 x 1065353216 || feq .f32 x 1065353216) = true) : Upto .f32 x (2 ^ 149) := by
  have eL : FloatKind.f32.format.leastPlace = -149 := by decide +kernel
  have hn : isNan .f32 x = false := by
    cases hn : isNan .f32 x
    · rfl
    · exfalso
      unfold fgt feq at h1
      rw [order_nan_left hn] at h1
      simp at h1
  have z0 : isNan .f32 0 = false := by decide +kernel
  have z1 : isNan .f32 1065353216 = false := by decide +kernel
  rw [fgt_kap hn z0, feq_kap hn z0, show kap .f32 0 = 0 by decide +kernel] at h1
  rw [flt_kap hn z1, feq_kap hn z1, show kap .f32 1065353216 = ((2 ^ 149 : Nat) : Int) by decide +kernel] at h2
  rw [Bool.or_eq_true, decide_eq_true_eq, decide_eq_true_eq] at h1 h2
  have hp := pow_le_huge (n := 149) (by omega)
  have hh := huge_pos
  generalize hq : ((2 ^ 149 : Nat) : Int) = Q at *
  obtain ⟨s, m, i, hr⟩ := isNum hn (by omega) (by omega)
  obtain ⟨b1, b2, b3⟩ := read_bound hr
  rw [kap_num hr, eL] at h1 h2
  refine ⟨s, m, (i + 149).toNat, by rw [hr, eL]; congr 1; omega, ?_, ?_⟩
  · rw [show i - -149 = i + 149 by omega] at h1 h2
    have : ((m * 2 ^ (i + 149).toNat : Nat) : Int) ≤ ((2 ^ 149 : Nat) : Int) := by
      rw [hq, Int.natCast_mul, Int.natCast_pow]
      generalize (m : Int) * 2 ^ (i + 149).toNat = z at *
      cases s <;> simp at h1 h2 <;> omega
    exact Int.ofNat_le.1 this
  · intro hs
    subst hs
    rw [if_pos rfl] at h1
    have hz : (m : Int) * 2 ^ (i - -149).toNat ≤ 0 := by
      generalize (m : Int) * 2 ^ (i - -149).toNat = z at *
      omega
    rcases Nat.eq_zero_or_pos m with h | h
    · exact h
    · exfalso
      have : (0 : Int) < (m : Int) * 2 ^ (i - -149).toNat := Int.mul_pos (by omega) (Int.pow_pos (by decide))
      omega

/-- A share of a row's length is one of its places. -/
theorem share_idx {x m : Nat} (h1 : (fgt .f32 x 0 || feq .f32 x 0) = true) (h2 : (flt .f32 x 1065353216 || feq .f32 x 1065353216) = true) (hm : m < 128) :
    ∃ n : Nat, f2i .f64 (fint .down (fcvt .f32 .f64 (fmul .f32 x (fofInt .f32 (m : Int))))) .i64 = some (n : Int) ∧ n ≤ m :=
  floor_upto (widen_upto (mul_upto (share_upto h1 h2) (ofInt_upto hm) (by omega)) (by omega)) hm
end Go.V

set_option exponentiation.threshold 4000
namespace Go.V
open Ieee

/-- 'not a not-a-number, and no infinity', as the library asks it. -/
def fabs (x : Nat) : Nat := canon .f64 (x % 9223372036854775808)
def finF (x : Nat) : Bool := feq .f64 x x && !fgt .f64 (fabs x) 9218868437227405311

theorem feq_nan_left {k : FloatKind} {a b : Nat} (h : isNan k a = true) : feq k a b = false := by
  unfold feq; rw [order_nan_left h]; rfl

theorem feq_self {k : FloatKind} {a : Nat} (h : isNan k a = false) : feq k a a = true := by
  rw [feq_kap h h]; simp

theorem kap64_le {b : Nat} {s : Bool} {m : Nat} {i : Int} (h : FloatKind.f64.format.read b = .number s m i) : kap .f64 b ≤ kap .f64 9218868437227405311 := by
  have e1 : FloatKind.f64.format.binade = 4503599627370496 := by decide +kernel
  have e2 : FloatKind.f64.format.infRung = 9218868437227405312 := by decide +kernel
  have e3 : FloatKind.f64.format.leastPlace = -1074 := by decide +kernel
  have key : m ≤ 9007199254740991 ∧ -1074 ≤ i ∧ (i - -1074).toNat ≤ 2045 := by
    unfold Format.read at h
    simp only [e1, e2, e3] at h
    generalize b % FloatKind.f64.format.signWeight = r at h
    split at h
    · cases h; omega
    · split at h
      · simp only [Datum.number.injEq] at h
        obtain ⟨_, rfl, rfl⟩ := h
        omega
      · split at h <;> cases h
  rw [kap_num h, e3]
  have hM : kap .f64 9218868437227405311 = (9007199254740991 : Int) * 2 ^ 2045 := by decide +kernel
  rw [hM]
  obtain ⟨h1, _, h2⟩ := key
  have h3 : m * 2 ^ (i - -1074).toNat ≤ 9007199254740991 * 2 ^ 2045 := Nat.mul_le_mul h1 (Nat.pow_le_pow_right (by decide) h2)
  have h4 : ((m * 2 ^ (i - -1074).toNat : Nat) : Int) ≤ ((9007199254740991 * 2 ^ 2045 : Nat) : Int) := Int.ofNat_le.2 h3
  rw [Int.natCast_mul, Int.natCast_pow, Int.natCast_mul, Int.natCast_pow] at h4
  have h0 : (0 : Int) ≤ (m : Int) * 2 ^ (i - -1074).toNat := Int.mul_nonneg (by omega) (Int.le_of_lt (Int.pow_pos (by decide)))
  have h4' : (m : Int) * 2 ^ (i - -1074).toNat ≤ (9007199254740991 : Int) * 2 ^ 2045 := h4
  generalize (m : Int) * 2 ^ (i - -1074).toNat = z at *
  generalize (9007199254740991 : Int) * 2 ^ 2045 = y at *
  split <;> omega

theorem read_mod (b : Nat) : FloatKind.f64.format.read (b % 9223372036854775808) = match FloatKind.f64.format.read b with
    | .number _ m i => .number false m i
    | .infinity _ => .infinity false
    | .nan _ t => .nan false t := by
  have e4 : FloatKind.f64.format.signWeight = 9223372036854775808 := by decide +kernel
  have h1 : b % 9223372036854775808 / 9223372036854775808 = 0 := Nat.div_eq_of_lt (Nat.mod_lt _ (by decide))
  unfold Format.read
  simp only [e4, Nat.mod_mod, h1]
  split
  · rfl
  · split
    · rfl
    · split <;> rfl

theorem fabs_num {b : Nat} {s : Bool} {m : Nat} {i : Int} (h : FloatKind.f64.format.read b = .number s m i) : FloatKind.f64.format.read (fabs b) = .number false m i := by
  have h1 := read_mod b
  rw [h] at h1
  simp only at h1
  unfold fabs
  rw [canon_num h1]
  exact h1

theorem finF_num {b : Nat} {s : Bool} {m : Nat} {i : Int} (h : FloatKind.f64.format.read b = .number s m i) : finF b = true := by
  have hn : isNan .f64 b = false := by unfold isNan; rw [h]; rfl
  have h1 := fabs_num h
  have hn1 : isNan .f64 (fabs b) = false := by unfold isNan; rw [h1]; rfl
  unfold finF
  rw [feq_self hn, fgt_kap hn1 (by decide +kernel)]
  have := kap64_le h1
  simp only [Bool.true_and, Bool.not_eq_true', decide_eq_false_iff_not]
  omega

/-- A number of single precision, widened. -/
theorem widen_num {x : Nat} {g : Bool} {m : Nat} {e : Int} (h : FloatKind.f32.format.read x = .number g m e) : ∃ m' i, FloatKind.f64.format.read (fcvt .f32 .f64 x) = .number g m' i := by
  have h0 := widen_ok x
  unfold fcvtOk FloatKind.decode at h0
  rw [if_neg (by decide), h] at h0
  simp only at h0
  unfold fcvt FloatKind.decode
  rw [if_neg (by decide), h]
  simp only
  by_cases hm : m = 0
  · subst hm
    have := nearest_zero .f64 g e
    unfold FloatKind.encode Format.write
    simp only
    rw [canon_num this]
    exact ⟨_, _, this⟩
  · obtain ⟨e1, kept, k1, k2, k3, k4, k5⟩ := nearest_eq FloatKind.f64.format g e hm
    have hlt : e1 * FloatKind.f64.format.binade + kept < FloatKind.f64.format.infRung := by
      rcases Nat.lt_or_ge (e1 * FloatKind.f64.format.binade + kept) FloatKind.f64.format.infRung with h1 | h1
      · exact h1
      · exfalso
        have : FloatKind.f64.encode (.number g m e) = FloatKind.f64.format.word g FloatKind.f64.format.infRung := by
          show FloatKind.f64.format.nearest g m e = _
          rw [k1, Nat.min_eq_right h1]
        rw [this] at h0
        revert h0
        cases g <;> decide +kernel
    obtain ⟨m', d, r1, r2⟩ := read_rung FloatKind.f64.format g k2 k3 hlt
    have : FloatKind.f64.encode (.number g m e) = FloatKind.f64.format.word g (e1 * FloatKind.f64.format.binade + kept) := by
      show FloatKind.f64.format.nearest g m e = _
      rw [k1, Nat.min_eq_left (by omega)]
    rw [this, canon_num r1]
    exact ⟨_, _, r1⟩

/-- Both ways to ask what is finite. -/
theorem fin_eq (x : Nat) : feq .f32 (fsub .f32 x x) 0 = finF (fcvt .f32 .f64 x) := by
  cases hr : FloatKind.f32.format.read x with
  | nan s t =>
    have h1 : fsub .f32 x x = qnan .f32 := by unfold fsub fres; rw [sub_nan_left (by unfold isNan; rw [hr]; rfl)]
    have h2 : fcvt .f32 .f64 x = qnan .f64 := by unfold fcvt FloatKind.decode; rw [if_neg (by decide), hr]
    rw [h1, h2]; decide +kernel
  | infinity g =>
    have h1 : fsub .f32 x x = qnan .f32 := by
      unfold fsub fres Format.sub; rw [hr]
      cases g <;> rfl
    have h2 : fcvt .f32 .f64 x = canon .f64 (FloatKind.f64.encode (.infinity g)) := by unfold fcvt FloatKind.decode; rw [if_neg (by decide), hr]
    rw [h1, h2]
    cases g <;> decide +kernel
  | number g m e =>
    obtain ⟨m', i, h2⟩ := widen_num hr
    rw [finF_num h2]
    have h1 : fsub .f32 x x = 0 := by
      unfold fsub fres Format.sub; rw [hr]
      simp only [Datum.opposite, Datum.sum, Option.map_some, Format.write]
      have : signed g m (e - min e e).toNat + signed (!g) m (e - min e e).toNat = 0 := by
        rw [signed_eq, signed_eq]
        cases g <;> simp <;> omega
      rw [this]
      cases g <;> simp [Format.nearest, Format.word] <;> decide +kernel
    rw [h1]; decide +kernel

/-- A number is none but a number. -/
theorem num_of_fin {x : Nat} (h : finF (fcvt .f32 .f64 x) = true) : isNan .f32 x = false := by
  cases hn : isNan .f32 x
  · rfl
  · exfalso
    rw [← fin_eq] at h
    have h1 : fsub .f32 x x = qnan .f32 := by unfold fsub fres; rw [sub_nan_left hn]
    rw [h1] at h
    revert h; decide +kernel
end Go.V

namespace Go.V
open Go.RowKit

section
variable {P : Program}

theorem Con.less {f : FuncId} {args : List AV} {r r' : AV} {Hr Hr' : Heap} (h : Con P f args r Hr) (m : List (Nat × Nat)) (h1 : ninj m = true) (h2 : nin Hr' m = true)
    (h3 : Cv m Hr r' r) (h4 : WH m Hr Hr') (h5 : sealedB r' = true) : Con P f args r' Hr' := by
  intro w vs hk hvs
  refine (h w vs hk hvs).mono ?_
  rintro v w' ⟨φ, hs, hr⟩
  refine ⟨back m φ, hs.weak h4 h1 (nin_spec h2), ?_⟩
  have h6 : Rel w' (Fr φ Hr) (Gr (Base.all w) φ Hr) φ Hr r v := Rel.keep (Nat.le_refl _) (fun b hb _ => ⟨rfl, hb.2⟩) (fun b hb _ => ⟨rfl, hb⟩) (HKeeps.refl _ _) _ _ hr
  exact sealed_rel r' v h5 (Cv_rel hs h4 h1 (nin_spec h2) r' r v h3 h6)

/-- Rows that nil stands for. -/
def empties : Heap → Bool
  | [] => true
  | (_, .row _ _ []) :: H => empties H
  | _ => false

def plain : AV → Bool
  | .tt => true
  | .ff => true
  | .val _ => true
  | .flt _ _ => true
  | .cpx _ _ _ => true
  | .junk => true
  | _ => false

def Nv (H : Heap) (c a : AV) : Prop :=
  match c with
  | .own k => a = .val (.slice none 0 0) ∧ (hget H k).isSome = true
  | .agg cs => ∃ ds, a = .agg ds ∧ cs.length = ds.length ∧ ∀ p ∈ cs.zip ds, (match p.1 with
    | .own k => p.2 = .val (.slice none 0 0) ∧ (hget H k).isSome = true
    | c => p.2 = c ∧ plain c = true)
  | c => a = c ∧ plain c = true
def NvL (H : Heap) : List AV → List AV → Prop
  | [], ds => ds = []
  | c :: cs, ds => match ds with
    | d :: ds => Nv H c d ∧ NvL H cs ds
    | [] => False

theorem empties_row : ∀ {H : Heap}, empties H = true → ∀ {k : Nat} {C : Cont}, hget H k = some C → ∃ e t, C = .row e t []
  | [], _, k, C, h => by cases h
  | (s, .row e t []) :: H, he, k, C, h => by
    rw [hget_cons] at h
    split at h
    · cases h; exact ⟨e, t, rfl⟩
    · exact empties_row (H := H) he h
  | (s, .row e t (x :: l)) :: H, he, k, C, h => by cases he
  | (s, .box cs) :: H, he, k, C, h => by cases he
  | (s, .dead) :: H, he, k, C, h => by cases he

theorem plain_rel {w w' : World} {F F' G G' : Nat → Prop} {φ φ' : Nat → Value} {H H' : Heap} {c : AV} {v : Value} (hp : plain c = true) (h : Rel w F G φ H c v) : Rel w' F' G' φ' H' c v := by
  cases c <;> first | exact h | cases hp | (simp only [Rel])

def φn : Nat → Value := fun _ => .slice none 0 0

theorem Nv_rel {w : World} {F G F' G' : Nat → Prop} {φ : Nat → Value} {H : Heap} (c a : AV) (v : Value) (h : Nv H c a) (hr : Rel w F G φ [] a v) : Rel w F' G' φn H c v := by
  have one : ∀ (c d : AV) (u : Value), (match c with
    | .own k => d = .val (.slice none 0 0) ∧ (hget H k).isSome = true
    | c => d = c ∧ plain c = true) → Rel w F G φ [] d u → Rel w F' G' φn H c u := by
    intro c d u hc hd
    cases c <;> simp only at hc <;> obtain ⟨rfl, h2⟩ := hc <;> first
      | exact plain_rel h2 hd
      | (simp only [Rel] at hd ⊢; exact ⟨h2, fun _ _ _ _ => hd⟩)
  cases c with
  | agg cs =>
    obtain ⟨ds, rfl, hl, h2⟩ := h
    simp only [Rel] at hr ⊢
    obtain ⟨us, rfl, hr⟩ := hr
    refine ⟨us, rfl, ?_⟩
    have : ∀ (cs ds : List AV) (us : List Value), cs.length = ds.length → (∀ p ∈ cs.zip ds, (match p.1 with
        | .own k => p.2 = .val (.slice none 0 0) ∧ (hget H k).isSome = true
        | c => p.2 = c ∧ plain c = true)) → RelL w F G φ [] ds us → RelL w F' G' φn H cs us := by
      intro cs
      induction cs with
      | nil => intro ds us hl _ hr; cases ds with
        | nil => exact hr
        | cons _ _ => cases hl
      | cons c cs ih =>
        intro ds us hl hz hr
        cases ds with
        | nil => cases hl
        | cons d ds =>
          simp only [RelL] at hr
          obtain ⟨v, vs, rfl, h3, h4⟩ := hr
          exact ⟨v, vs, rfl, one c d v (hz (c, d) (by simp)) h3, ih ds vs (by simpa using hl) (fun p hp => hz p (by simp [hp])) h4⟩
    exact this cs ds us hl h2 hr
  | _ => exact one _ a v h hr

theorem NvL_rel {w : World} {F G F' G' : Nat → Prop} {φ : Nat → Value} {H : Heap} : ∀ (cs ds : List AV) (us : List Value), NvL H cs ds → RelL w F G φ [] ds us → RelL w F' G' φn H cs us
  | [], ds, us, h, hr => by simp only [NvL] at h; subst h; exact hr
  | c :: cs, ds, us, h, hr => by
    simp only [NvL] at h
    split at h
    · rename_i d ds
      simp only [RelL] at hr
      obtain ⟨v, vs, rfl, h1, h2⟩ := hr
      exact ⟨v, vs, rfl, Nv_rel c d v h.1 h1, NvL_rel cs ds vs h.2 h2⟩
    · exact h.elim

theorem Con.nils {f : FuncId} {args cs ds : List AV} {H : Heap} (h : Con P f args (.tup ds) []) (he : empties H = true) (hc : NvL H cs ds) : Con P f args (.tup cs) H := by
  intro w vs hk hvs
  refine (h w vs hk hvs).mono ?_
  rintro v w' ⟨φ, hs, hr⟩
  refine ⟨φn, ⟨hs.below, fun id C hi => ?_, fun id b _ hb => (by cases hb), fun id id' b _ _ hb => (by cases hb), hk⟩, ?_⟩
  · obtain ⟨e, t, rfl⟩ := empties_row he hi
    exact .inl ⟨rfl, rfl⟩
  · simp only [Rel] at hr ⊢
    obtain ⟨us, h1, h2⟩ := hr
    exact ⟨us, h1, NvL_rel cs ds us hc h2⟩
end
end Go.V
