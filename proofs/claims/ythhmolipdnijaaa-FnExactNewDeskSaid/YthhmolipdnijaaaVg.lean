/- A region whose order is drawn, order by order: for regions that make memory. -/
import Derived.Test.YthhmolipdnijaaaVf
import Derived.ChangeStays
import Derived.ChangeSame
import Derived.OpenShut
import Derived.Handed
set_option linter.unusedVariables false
set_option linter.unusedSimpArgs false
set_option linter.unnecessarySimpa false
namespace Go.V
open Go.RowKit Go.ChangeShapes

/-- What is within the bounds of its kind. -/
def Wf : (s : STy) → s.S → Prop
  | .int k, n => (Lit.int k n).wf = true
  | .bool, _ => True
  | .flt k, x => FV k x x
  | .cpx k, p => FV k p.1 p.1 ∧ FV k p.2 p.2
  | .str, b => b.size ≤ maxLen
  | .sl e, l => l.length ≤ maxLen ∧ ∀ y ∈ l, Wf e y
  | .pair a b, p => Wf a p.1 ∧ Wf b p.2

def fitN (P : Program) : Nat → STy → List TypeId → Bool
  | 0, _, _ => false
  | n + 1, s, [t] => decide (t < P.types.size) && (match P.underlying t with
    | some (.struct fs) => fitN P n s (fs.toList.map (·.type))
    | some (.slice u) => match s with
      | .sl e => fitN P n e [u] && (P.cellsOf u == e.n)
      | _ => false
    | some (.int k) => match s with
      | .int k' => decide (k = k')
      | _ => false
    | some .bool => match s with
      | .bool => true
      | _ => false
    | some (.float k) => match s with
      | .flt k' => decide (k = k')
      | _ => false
    | some .string => match s with
      | .str => true
      | _ => false
    | _ => false)
  | n + 1, .pair a b, t :: u :: ts => fitN P n a [t] && fitN P n b (u :: ts)
  | _, _, _ => false

section
variable {H : Type} {enc : TypeId × Value → H} {P : Program} {w : World} {base : Nat} {sp : Nat → Bool} {held : Bool} {t : TypeId} {fuel : Nat} {cs : List Value} {x : DataW H × List MemPlace}

theorem trod_float {k : FloatKind} (ht : P.underlying t = some (.float k)) (h : DataW.trod enc P w base sp held fuel t cs = some x) : ∃ b, cs = [.float k b] ∧ (Lit.float k b).wf = true := by
  cases fuel with
  | zero => simp [DataW.trod] at h
  | succ n =>
    unfold DataW.trod at h
    rw [ht] at h
    split at h <;> simp_all
theorem list_of {α : Type} {Q : Nat → α → Prop} : ∀ (n : Nat), (∀ i, i < n → ∃ y, Q i y) → ∃ l : List α, l.length = n ∧ ∀ i y, l[i]? = some y → Q i y
  | 0, _ => ⟨[], rfl, fun i y h => by simp at h⟩
  | n + 1, h => by
    obtain ⟨l, h1, h2⟩ := list_of n fun i hi => h i (by omega)
    obtain ⟨y, hy⟩ := h n (by omega)
    refine ⟨l ++ [y], by simp [h1], fun i z hz => ?_⟩
    rcases Nat.lt_or_ge i l.length with hi | hi
    · rw [List.getElem?_append_left hi] at hz; exact h2 i z hz
    · rw [List.getElem?_append_right hi] at hz
      have : i - l.length = 0 := by
        rcases Nat.eq_zero_or_pos (i - l.length) with h | h
        · exact h
        · rw [List.getElem?_eq_none (by simp; omega)] at hz; cases hz
      rw [this] at hz
      simp at hz; subst hz
      rw [show i = n by omega]; exact hy

theorem fv_of {k : FloatKind} {b : Nat} (h : b < 2 ^ k.format.width) : FV k (canon k b) (canon k b) := ⟨canon_lt h, canon_canon k b⟩

/-- Cells cut where the sums say. -/
def parts : List Nat → List Value → List (List Value)
  | [], _ => []
  | n :: ns, cs => cs.take n :: parts ns (cs.drop n)
theorem parts_flat : ∀ (ns : List Nat) (cs : List Value), cs.length = ns.sum → (parts ns cs).flatten = cs
  | [], cs, h => by
    have : cs = [] := List.eq_nil_of_length_eq_zero (by simpa using h)
    subst this; rfl
  | n :: ns, cs, h => by
    rw [parts, List.flatten_cons, parts_flat ns (cs.drop n) (by rw [List.length_drop, h]; simp), List.take_append_drop]
theorem parts_len : ∀ (ns : List Nat) (cs : List Value), (parts ns cs).length = ns.length
  | [], _ => rfl
  | _ :: ns, cs => by rw [parts, List.length_cons, parts_len ns, List.length_cons]
theorem parts_get : ∀ (ns : List Nat) (cs : List Value) (i n : Nat), ns[i]? = some n → (parts ns cs)[i]? = some ((cs.drop (ns.take i).sum).take n)
  | [], cs, i, n, h => by simp at h
  | m :: ns, cs, 0, n, h => by
    simp at h; subst h; simp [parts]
  | m :: ns, cs, i + 1, n, h => by
    rw [parts, List.getElem?_cons_succ, parts_get ns (cs.drop m) i n (by simpa using h), List.drop_drop]
    simp

theorem open_fit (hl : laidOutB P = true) : ∀ (n : Nat) (s : STy) (ts : List TypeId) (css : List (List Value)), fitN P n s ts = true → css.length = ts.length →
    (∀ (i : Nat) (t : TypeId) (cs : List Value), ts[i]? = some t → css[i]? = some cs → ∃ (fuel : Nat) (x : DataW H × List MemPlace), DataW.trod enc P w base sp held fuel t cs = some x) →
    ∃ x : s.S, RdC w (fun _ => True) s x css.flatten ∧ Wf s x
  | 0, s, ts, css, h, _, _ => by simp [fitN] at h
  | n + 1, s, [], css, h, _, _ => by cases s <;> simp [fitN] at h
  | n + 1, s, [t], css, h, hlen, htr => by
    have ih := open_fit hl n
    match css, hlen with
    | [cs], _ =>
    obtain ⟨fuel, x, hx⟩ := htr 0 t cs rfl rfl
    simp only [fitN, Bool.and_eq_true, decide_eq_true_eq] at h
    obtain ⟨htl, h⟩ := h
    simp only [List.flatten_cons, List.flatten_nil, List.append_nil]
    split at h
    · -- a struct
      rename_i fs hu
      obtain ⟨xs, m, rfl, rfl, h1, h2, h3⟩ := DataW.trod_struct hu hx
      obtain ⟨k1, k2, k3⟩ := kid_struct hl htl hu
      have hsum : cs.length = (fs.toList.map fun f => P.cellsOf f.type).sum := by rw [h1, k2]
      have := ih s _ (parts (fs.toList.map fun f => P.cellsOf f.type) cs) h (by rw [parts_len]; simp) (fun i t' cs' ht' hcs' => by
        rw [List.getElem?_map] at ht'
        cases hf : fs.toList[i]? with
        | none => rw [hf] at ht'; cases ht'
        | some f =>
          rw [hf] at ht'
          simp only [Option.map_some, Option.some.injEq] at ht'
          subst ht'
          rw [parts_get _ _ i (P.cellsOf f.type) (by rw [List.getElem?_map, hf]; rfl)] at hcs'
          have e := k3 i f hf
          have h4 := h3 i f (by simpa using hf)
          rw [e, List.map_take] at h4
          simp only [Option.some.injEq] at hcs'
          rw [hcs'] at h4
          have hi : i < xs.length := by rw [h2]; simpa using (List.getElem?_eq_some_iff.1 hf).1
          exact ⟨m, xs[i], by rw [h4]; simp [hi]⟩)
      rw [parts_flat _ _ hsum] at this
      exact this
    · -- a slice
      rename_i u hu
      cases s with
      | sl e =>
        simp only [Bool.and_eq_true, beq_iff_eq] at h
        obtain ⟨h1, h2⟩ := h
        rcases DataW.trod_slice hu hx with ⟨rfl, _⟩ | ⟨a, len, cap, elems, rest, m, _, rfl, _, _, hlc, hcap, hel, hget, _, _⟩
        · exact ⟨([] : List e.S), ⟨_, rfl, .inl ⟨rfl, _, _, rfl⟩⟩, Nat.zero_le _, fun y hy => by simp at hy⟩
        · have each : ∀ i, i < len → ∃ y : e.S, (∃ us, w.cells? base (a.add (i * P.cellsOf u)) (P.cellsOf u) = some us ∧ RdC w (fun _ => True) e y us) ∧ Wf e y := by
            intro i hi
            have hg := hget i hi
            have hie : i < elems.length := by omega
            rw [List.getElem?_eq_getElem hie, Option.bind_eq_some_iff] at hg
            obtain ⟨us, hus, hy⟩ := hg
            obtain ⟨y, hy1, hy2⟩ := ih e [u] [us] h1 rfl (fun j t' cs' ht' hcs' => by
              cases j with
              | zero => simp at ht' hcs'; subst ht'; subst hcs'; exact ⟨m, _, hy⟩
              | succ j => simp at ht')
            simp only [List.flatten_cons, List.flatten_nil, List.append_nil] at hy1
            exact ⟨y, ⟨us, hus, hy1⟩, hy2⟩
          obtain ⟨l, hl1, hl2⟩ := list_of len each
          refine ⟨l, ⟨_, rfl, ?_⟩, ⟨by omega, fun y hy => ?_⟩⟩
          · rcases Nat.eq_zero_or_pos len with h0 | h0
            · subst h0
              exact .inl ⟨List.eq_nil_of_length_eq_zero hl1, _, _, rfl⟩
            · right
              have hpos : 0 < e.n := e.n_pos
              have hcell : ∀ i, i < len → ∀ j, j < e.n → ∃ c, w.cell? ((a.add (i * e.n)).add j) = some c := by
                intro i hi j hj
                obtain ⟨y, ⟨us, hus, _⟩, _⟩ := each i hi
                rw [h2] at hus
                obtain ⟨_, g1, g2⟩ := World.cells?_some hus
                have := g2 j hj
                rw [List.getElem?_eq_getElem (by omega)] at this
                exact ⟨_, this⟩
              have hspot : a.spot = none ∧ a.block < w.heap.size := by
                obtain ⟨c, hc⟩ := hcell 0 h0 0 hpos
                simp only [Nat.zero_mul, Addr.add, if_true] at hc
                unfold World.cell? at hc
                split at hc
                · rename_i hb
                  split at hc
                  · cases hc
                  · rename_i hs
                    refine ⟨by simpa using hs, ?_⟩
                    rcases Nat.lt_or_ge a.block w.heap.size with hlt | hge
                    · exact hlt
                    · rw [Array.getElem?_eq_none hge] at hb; cases hb
                · cases hc
              obtain ⟨b, off, spot⟩ := a
              obtain ⟨rfl, hblk⟩ := hspot
              refine ⟨b, off, cap, by rw [hl1], by omega, trivial, hblk, fun i y hy => ?_⟩
              have hi : i < len := by rw [← hl1]; exact (List.getElem?_eq_some_iff.1 hy).1
              obtain ⟨⟨us, hus, hrd⟩, _⟩ := hl2 i y hy
              rw [h2] at hus
              obtain ⟨_, g1, g2⟩ := World.cells?_some hus
              refine ⟨us, g1, hrd, fun j c hj => ?_⟩
              have hjn : j < e.n := by rw [← g1]; exact (List.getElem?_eq_some_iff.1 hj).1
              have := g2 j hjn
              rw [hj] at this
              rw [← this]
              congr 1
              simp only [Addr.add]
              split <;> split <;> simp_all
          · obtain ⟨i, hi⟩ := List.getElem?_of_mem hy
            exact (hl2 i y hi).2
      | _ => cases h
    · rename_i k hu
      cases s with
      | int k' =>
        have := of_decide_eq_true h
        subst this
        obtain ⟨m, rfl, _, hw⟩ := DataW.trod_int hu hx
        exact ⟨m, rfl, hw⟩
      | _ => cases h
    · rename_i hu
      cases s with
      | bool =>
        obtain ⟨b, rfl, _⟩ := DataW.trod_bool hu hx
        exact ⟨b, rfl, trivial⟩
      | _ => cases h
    · rename_i k hu
      cases s with
      | flt k' =>
        have := of_decide_eq_true h
        subst this
        obtain ⟨b, rfl, hw⟩ := trod_float hu hx
        have hb : b < 2 ^ k.format.width := by
          have e1 : (2 : Nat) ^ FloatKind.f32.format.width = 4294967296 := by decide +kernel
          have e2 : (2 : Nat) ^ FloatKind.f64.format.width = 18446744073709551616 := by decide +kernel
          cases k
          · rw [e1]; simpa [Lit.wf] using hw
          · rw [e2]; simpa [Lit.wf] using hw
        exact ⟨canon k b, ⟨b, rfl, FV.self hb⟩, fv_of hb⟩
      | _ => cases h
    · rename_i hu
      cases s with
      | str =>
        obtain ⟨b, rfl, _, hw⟩ := DataW.trod_string hu hx
        exact ⟨b, rfl, hw⟩
      | _ => cases h
    · cases h
  | n + 1, s, t :: u :: ts, css, h, hlen, htr => by
    have ih := open_fit hl n
    cases s with
    | pair a b =>
      simp only [fitN, Bool.and_eq_true] at h
      match css, hlen with
      | cs :: ds, hlen =>
        obtain ⟨x, hx1, hx2⟩ := ih a [t] [cs] h.1 rfl (fun j t' cs' ht' hcs' => by
          cases j with
          | zero => simp at ht' hcs'; subst ht'; subst hcs'; exact htr 0 t cs rfl rfl
          | succ j => simp at ht')
        obtain ⟨y, hy1, hy2⟩ := ih b (u :: ts) ds h.2 (by simpa using hlen) (fun j t' cs' ht' hcs' => htr (j + 1) t' cs' (by simpa using ht') (by simpa using hcs'))
        simp only [List.flatten_cons, List.flatten_nil, List.append_nil] at hx1
        exact ⟨(x, y), ⟨_, _, rfl, hx1, hy1⟩, hx2, hy2⟩
    | _ => simp [fitN] at h
end
end Go.V

namespace Go.V
open Go.RowKit Go.ChangeShapes

def HL : List (Bool × STy) → Type
  | [] => Unit
  | p :: ps => p.2.S × HL ps
def argAV (ag : Bool) (s : STy) (x : s.S) : AV := match ag with
  | true => .agg (s.enc false x)
  | false => match s.enc false x with
    | [c] => c
    | _ => .junk
def argAVs : (ps : List (Bool × STy)) → HL ps → List AV
  | [], _ => []
  | p :: ps, xs => argAV p.1 p.2 xs.1 :: argAVs ps xs.2
def WfL : (ps : List (Bool × STy)) → HL ps → Prop
  | [], _ => True
  | p :: ps, xs => Wf p.2 xs.1 ∧ WfL ps xs.2

def argFit (P : Program) (p : Bool × STy) (t : TypeId) : Bool := fitN P 40 p.2 [t] && (match P.underlying t with
  | some (.struct _) => p.1
  | some (.array _ _) => false
  | some (.interface _) => false
  | some (.map _ _) => false
  | some (.func _ _ _) => false
  | some (.chan _ _) => false
  | some .unsafePointer => false
  | _ => !p.1)
def argFits (P : Program) : List (Bool × STy) → List TypeId → Bool
  | [], [] => true
  | p :: ps, t :: ts => argFit P p t && argFits P ps ts
  | _, _ => false

section
variable {H : Type} {enc : TypeId × Value → H} {P : Program} {w W W' : World} {base : Nat} {sp : Nat → Bool} {held : Bool}

theorem enc_arg {s : STy} {x : s.S} {us : List Value} (h : RdC w (fun _ => True) s x us) : ArgRels w (s.enc false x) us :=
  enc_rel (G := fun _ => False) (F := fun _ => True) false s x us h

theorem arg_rel (hl : laidOutB P = true) {p : Bool × STy} {t : TypeId} {v : Value} {d : DataW H} {ps : List MemPlace} {r : Reach} {b0 : Nat} (hf : argFit P p t = true)
    (hval : Value.okWide P w r b0 t v) (hd : DataW.Trod enc P w base sp held t v d ps) : ∃ x : p.2.S, ArgRel w (argAV p.1 p.2 x) v ∧ Wf p.2 x := by
  obtain ⟨fuel, hd⟩ := hd
  unfold argFit at hf
  rw [Bool.and_eq_true] at hf
  obtain ⟨x, h1, h2⟩ := open_fit hl 40 p.2 [t] [v.cells.toList] hf.1 rfl (fun i t' cs ht hc => by
    cases i with
    | zero => simp at ht hc; subst ht; subst hc; exact ⟨fuel, _, hd⟩
    | succ i => simp at ht)
  simp only [List.flatten_cons, List.flatten_nil, List.append_nil] at h1
  refine ⟨x, ?_, h2⟩
  have he := enc_arg h1
  have hf2 := hf.2
  have noagg : p.1 = false → (∀ cs, v ≠ .agg cs) → ArgRel w (argAV p.1 p.2 x) v := by
    intro hp hv
    have hc : v.cells.toList = [v] := by
      cases v <;> first | rfl | exact absurd rfl (hv _)
    rw [hc] at he
    rw [hp]
    unfold argAV
    simp only
    cases hx : p.2.enc false x with
    | nil => rw [hx] at he; simp only [ArgRels, RelL] at he; cases he
    | cons c cs =>
      rw [hx] at he
      simp only [ArgRels, RelL] at he
      obtain ⟨u, us, e, g1, g2⟩ := he
      simp only [List.cons.injEq] at e
      obtain ⟨rfl, rfl⟩ := e
      cases cs with
      | nil => exact g1
      | cons c' cs => simp only [RelL] at g2; obtain ⟨u, us, e, _⟩ := g2; cases e
  unfold Value.okWide at hval
  cases hu : P.underlying t with
  | none =>
    rw [hu] at hval hf2
    exact noagg (by simpa using hf2) (by rintro cs rfl; simp [Cell.okWide, Cell.ok, hu] at hval)
  | some u =>
    cases u <;> rw [hu] at hval hf2 <;> simp only at hval hf2 <;> first
      | exact absurd hf2 (by decide)
      | exact noagg (by simpa using hf2) (by rintro cs rfl; simp [Cell.okWide, Cell.ok, hu] at hval)
      | (obtain ⟨cs, rfl, _⟩ := hval
         unfold argAV
         rw [hf2]
         simp only [ArgRel, Rel]
         exact ⟨cs.toList, rfl, he⟩)

theorem args_rel (hl : laidOutB P = true) {r : Reach} {b0 : Nat} : ∀ {ps : List (Bool × STy)} {ts : List TypeId} {vs : List Value} {ds : List (DataW H)} {q : List MemPlace}, argFits P ps ts = true →
    (∀ (j : Nat) t v, ts[j]? = some t → vs[j]? = some v → Value.okWide P w r b0 t v) → DataW.TrodAll enc P w base sp held ts vs ds q →
    ∃ xs : HL ps, ArgRels w (argAVs ps xs) vs ∧ WfL ps xs ∧ ds.length = ps.length
  | [], [], vs, ds, q, _, _, h => by
    obtain ⟨rfl, rfl, rfl⟩ := trodAll_nil h
    exact ⟨(), rfl, trivial, rfl⟩
  | [], _ :: _, _, _, _, hf, _, _ => by cases hf
  | _ :: _, [], _, _, _, hf, _, _ => by cases hf
  | p :: ps, t :: ts, vs, ds, q, hf, hval, h => by
    simp only [argFits, Bool.and_eq_true] at hf
    obtain ⟨v, vs1, d, ds1, a, b, rfl, rfl, rfl, h1, h2⟩ := trodAll_cons h
    obtain ⟨x, k1, k2⟩ := arg_rel hl hf.1 (hval 0 t v rfl rfl) h1
    obtain ⟨xs, g1, g2, g3⟩ := args_rel hl hf.2 (fun j t' v' ht hv => hval (j + 1) t' v' (by simpa using ht) (by simpa using hv)) h2
    exact ⟨(x, xs), ⟨v, vs1, rfl, k1, g1⟩, ⟨k2, g2⟩, by simp [g3]⟩

theorem onto_sameAt (h : Onto (Base.all W) W W') {p : MemPlace} (hp : p.block < W.heap.size) : W.sameAt W' p := by
  cases p with
  | cell b off =>
    have := h.block b hp
    show W'.cell? _ = W.cell? _
    exact World.cell?_of_block (w := W) (a := ⟨b, off, none⟩) this
  | map b => exact h.block b hp

theorem onto_kept (h : Onto (Base.all W) W W') (may : MemPlace → Prop) : W.keptBut W' may := by
  refine ⟨h.os, h.output, fun i hi => ?_⟩
  rw [h.block i hi]
  cases W.heap[i]? with
  | none => rfl
  | some o => cases o <;> simp

theorem trodAll_stays (hl : laidOutB P = true) (hm : mapsRowed P = true) (hsz : ∀ {t e : TypeId}, t < P.types.size → P.underlying t = some (.slice e) → 0 < P.cellsOf e) (h : Onto (Base.all W) W W') {sp' : Nat → Bool} :
    ∀ {ts : List TypeId} {vs : List Value} {ds : List (DataW H)} {ps : List MemPlace}, (∀ t ∈ ts, t < P.types.size) → DataW.TrodAll enc P W 0 (fun _ => true) true ts vs ds ps → (∀ p ∈ ps, sp' p.block = true) → DataW.TrodAll enc P W' 0 sp' true ts vs ds ps
  | [], vs, ds, ps, _, hd, _ => by
    obtain ⟨rfl, rfl, rfl⟩ := trodAll_nil hd
    exact trodAll_mk0
  | t :: ts, vs, ds, ps, ht, hd, hs => by
    have hlt := hd.lt
    obtain ⟨v, vs1, d, ds1, a, b, rfl, rfl, rfl, ⟨n, h1⟩, h2⟩ := trodAll_cons hd
    refine trodAll_cons_mk ⟨n, ?_⟩ (trodAll_stays hl hm hsz h (fun t' h' => ht t' (by simp [h'])) h2 (fun p hp => hs p (by simp [hp])))
    exact DataW.trod_stays (kids_rows hl hm) hsz (by intro h; cases h) (ht t (by simp)) h1 (fun p hp => onto_sameAt h (hlt p (by simp only [List.mem_append]; exact .inl hp))) (fun p hp => hs p (by simp only [List.mem_append]; exact .inl hp))

/-- Every slice's elements have cells. -/
def slicesPos (P : Program) : Bool := (List.range P.types.size).all fun t => match P.underlying t with
  | some (.slice e) => decide (0 < P.cellsOf e)
  | _ => true
theorem slicesPos_spec (h : slicesPos P = true) {t e : TypeId} (ht : t < P.types.size) (hu : P.underlying t = some (.slice e)) : 0 < P.cellsOf e := by
  have := List.all_eq_true.1 h t (List.mem_range.2 ht)
  simpa [hu] using this

/-- The law returns true, and what it was handed reads as it did. -/
theorem law_contract (hl : laidOutB P = true) (hm : mapsRowed P = true) (hsz : slicesPos P = true) {f : FuncId} {fn : Func} {c : Code} {s : ChangeSpec} {apart fresh handsOn again : Bool} (ps : List (Bool × STy)) {bt : TypeId}
    (hf : P.funcs[f]? = some fn) (hname : (fn.name == "runtime.NumGoroutine") = false) (hb : fn.body = some c) (hfit : argFits P ps fn.params.toList = true) (hts : ∀ t ∈ fn.params.toList, t < P.types.size)
    (hres : fn.resultTypes = #[bt]) (hbt : P.underlying bt = some .bool) (hvars : s.vars = [])
    (hspec : ∀ (ds : List (DataW H)), ds.length = ps.length → (s.fn H ds).results = [.lit (.bool true)] ∧ (s.fn H ds).args = ds ∧ (s.fn H ds).vars = [])
    (hkeep : KeepB (Base.all W)) (hcon : ∀ xs : HL ps, WfL ps xs → Con P f (argAVs ps xs) (.val (.bool true)) [])
    {args : Array Value} {ds gs : List (DataW H)} {before : List MemPlace} {r : Reach} {b0 : Nat} (hval : ∀ (j : Nat) t v, fn.params[j]? = some t → args[j]? = some v → Value.okWide P W r b0 t v)
    (hW : DataW.Whole enc P fn.params.toList s.vars apart W args.toList ds gs before) :
    Calls P f args W fun e W' => ∃ v, e = .returned v ∧ s.post enc P fn apart fresh handsOn again W args v W' := by
  have hW0 := hW
  obtain ⟨p, q, hA, hV, rfl, hz, hn⟩ := hW
  rw [hvars] at hV
  obtain ⟨rfl, rfl⟩ : gs = [] ∧ q = [] := by
    cases gs with
    | nil => exact ⟨rfl, hV⟩
    | cons d gs => cases hV
  simp only [List.append_nil] at hW0 hz hn
  obtain ⟨xs, h1, h2, h3⟩ := args_rel hl hfit (fun j t v ht hv => hval j t v (by simpa using ht) (by simpa using hv)) hA
  have hc := hcon xs h2 W args.toList hkeep h1
  have hrun : (callFunc f args).run P W = .ok (.enter f args) W := by
    have hp : (program).run P W = .ok P W := rfl
    simp only [callFunc, Sem.run_bind, hp, Result.andThen_ok, hf, hname, hb, Option.isNone, Bool.false_eq_true, if_false, Sem.run_pure]
  unfold CallsF at hc
  simp only [Array.toArray_toList, hrun] at hc
  refine hc.mono ?_
  rintro e W' ⟨v, rfl, φ, hs, hr⟩
  simp only [Rel] at hr
  subst hr
  have hsb : Onto (Base.all W) W W' := hs.below
  obtain ⟨s1, s2, s3⟩ := hspec ds h3
  have hlt := hA.lt
  have hgo : ∀ sp' : Nat → Bool, (∀ x ∈ p, sp' x.block = true) → DataW.TrodAll enc P W' 0 sp' true fn.params.toList args.toList ds p :=
    fun sp' hsp => trodAll_stays hl hm (slicesPos_spec hsz) hsb hts hA hsp
  have hone : (Value.bool true).resultList fn.resultTypes.size = [Value.bool true] := by rw [hres]; rfl
  have hres' : ∀ (b : Nat) (sp : Nat → Bool) (hd : Bool), DataW.TrodAll enc P W' b sp hd fn.resultTypes.toList ((Value.bool true).resultList fn.resultTypes.size) [.lit (.bool true)] [] := by
    intro b sp hd
    rw [hone, hres]
    exact trodAll_cons_mk (shut_bool hbt _) trodAll_mk0
  refine ⟨_, rfl, ds, [], p, [], p, [], hW0, ?_, ?_, ?_, onto_kept hsb _, fun _ => ?_⟩
  · rw [List.append_nil, s1]; exact hres' _ _ _
  · rw [List.append_nil, s2]; exact hgo _ (fun x hx => by simpa using hlt x hx)
  · rw [List.append_nil, s3, hvars]; rfl
  · refine ⟨ok_one hres rfl (okWide_bool_mk hbt _), [.lit (.bool true)] ++ ds, [], p, ⟨[] ++ p, [], ?_, ?_, by simp, ?_, fun ha => hn ha⟩, fun x hx _ => hx⟩
    · exact trodAll_append (hgo _ (fun _ _ => rfl)) (hres' _ _ _)
    · rw [hvars]; rfl
    · intro b off hp
      have hbl : b < W.heap.size := hlt _ hp
      have h1 := hsb.block b hbl
      have h2 := hz b off hp
      unfold World.frozen? at h2 ⊢
      simp only [h1]
      exact h2
end
end Go.V

set_option exponentiation.threshold 4000
namespace Go.V
open Ieee

/-- What a rung is worth, in least steps. -/
def worth (B r : Nat) : Nat := if r < B then r else (B + r % B) * 2 ^ (r / B - 1)

theorem worth_lt {B r s : Nat} (hB : 0 < B) (h : r < s) : worth B r < worth B s := by
  unfold worth
  by_cases h1 : r < B
  · rw [if_pos h1]
    by_cases h2 : s < B
    · rw [if_pos h2]; exact h
    · rw [if_neg h2]
      have : 1 ≤ 2 ^ (s / B - 1) := Nat.one_le_two_pow
      have := Nat.mul_le_mul_left (B + s % B) this
      omega
  · have h2 : ¬ s < B := by omega
    rw [if_neg h1, if_neg h2]
    have hr := Nat.div_add_mod r B
    have hs := Nat.div_add_mod s B
    have hrB := Nat.mod_lt r hB
    have hsB := Nat.mod_lt s hB
    have e1 : 1 ≤ r / B := (Nat.le_div_iff_mul_le hB).2 (by omega)
    have hle : r / B ≤ s / B := Nat.div_le_div_right (by omega)
    rcases Nat.lt_or_ge (r / B) (s / B) with hlt | hge
    · have a1 : (B + r % B) * 2 ^ (r / B - 1) < (2 * B) * 2 ^ (r / B - 1) := Nat.mul_lt_mul_of_pos_right (by omega) (Nat.two_pow_pos _)
      have a2 : (2 * B) * 2 ^ (r / B - 1) = B * 2 ^ (r / B) := by
        rw [Nat.mul_comm 2 B, Nat.mul_assoc, ← Nat.pow_succ']
        congr 2; omega
      have a3 : B * 2 ^ (r / B) ≤ (B + s % B) * 2 ^ (s / B - 1) := Nat.mul_le_mul (by omega) (Nat.pow_le_pow_right (by decide) (by omega))
      omega
    · have e : r / B = s / B := Nat.le_antisymm hle hge
      rw [e] at hr ⊢
      exact Nat.mul_lt_mul_of_pos_right (by omega) (Nat.two_pow_pos _)

theorem worth_inj {B r s : Nat} (hB : 0 < B) (h : worth B r = worth B s) : r = s := by
  rcases Nat.lt_trichotomy r s with h1 | h1 | h1
  · have := worth_lt hB h1; omega
  · exact h1
  · have := worth_lt hB h1; omega

/-- A word that is no NaN, by its sign and its rung. -/
theorem kap_word {k : FloatKind} {b : Nat} (h : b < 2 ^ k.format.width) (hn : isNan k b = false) :
    ∃ (s : Bool) (r : Nat), b = k.format.word s r ∧ r ≤ k.format.infRung ∧ ((r < k.format.infRung ∧ kap k b = if s then -((worth k.format.binade r : Nat) : Int) else (worth k.format.binade r : Nat)) ∨ (r = k.format.infRung ∧ kap k b = if s then -(huge : Int) else huge)) := by
  have hw : 2 ^ k.format.width = 2 * k.format.signWeight := width_eq k
  have hpos : 0 < k.format.signWeight := Nat.two_pow_pos _
  refine ⟨b / k.format.signWeight % 2 == 1, b % k.format.signWeight, ?_, ?_, ?_⟩
  · have h1 := Nat.div_add_mod b k.format.signWeight
    have h2 : b / k.format.signWeight < 2 := (Nat.div_lt_iff_lt_mul hpos).2 (by omega)
    unfold Format.word
    generalize b / k.format.signWeight = q at h1 h2 ⊢
    rcases Nat.lt_or_ge q 1 with h3 | h3
    · have : q = 0 := by omega
      subst this
      rw [Nat.mul_zero] at h1
      simp; omega
    · have : q = 1 := by omega
      subst this
      rw [Nat.mul_one] at h1
      simp; omega
  · rw [nan_iff] at hn
    have := of_decide_eq_false hn
    omega
  · rw [nan_iff] at hn
    have hle := of_decide_eq_false hn
    unfold kap Format.read
    simp only
    generalize b % k.format.signWeight = r at *
    by_cases c1 : r < k.format.binade
    · left
      rw [if_pos c1]
      have : k.format.binade ≤ k.format.infRung := by cases k <;> decide +kernel
      refine ⟨by omega, ?_⟩
      simp only [signed_eq, Int.sub_self, Int.toNat_zero, Int.pow_zero, Int.mul_one]
      unfold worth
      rw [if_pos c1]
    · rw [if_neg c1]
      by_cases c2 : r < k.format.infRung
      · left
        rw [if_pos c2]
        refine ⟨c2, ?_⟩
        simp only [signed_eq]
        rw [show (k.format.leastPlace + ((r / k.format.binade - 1 : Nat) : Int) - k.format.leastPlace).toNat = r / k.format.binade - 1 by omega]
        unfold worth
        rw [if_neg c1, Int.natCast_mul, Int.natCast_pow]
        rfl
      · right
        have : r = k.format.infRung := by omega
        rw [if_neg c2, if_pos this]
        exact ⟨this, rfl⟩

theorem worth_huge {k : FloatKind} {r : Nat} (h : r < k.format.infRung) : worth k.format.binade r < huge := by
  have e1 : k.format.binade ≤ 2 ^ 52 := by cases k <;> decide +kernel
  have e2 : k.format.infRung ≤ 2047 * k.format.binade := by cases k <;> decide +kernel
  have e0 : 0 < k.format.binade := Nat.two_pow_pos _
  unfold worth
  have hp : (2 : Nat) ^ 60 * 2 ^ 2100 ≤ huge := by
    rw [← Nat.pow_add, huge_eq]; exact Nat.pow_le_pow_right (by decide) (by decide)
  split
  · refine Nat.lt_of_lt_of_le ?_ hp
    have : (2 : Nat) ^ 52 ≤ 2 ^ 60 * 2 ^ 2100 := by rw [← Nat.pow_add]; exact Nat.pow_le_pow_right (by decide) (by decide)
    omega
  · have h1 := Nat.mod_lt r e0
    have h2 : r / k.format.binade < 2047 := (Nat.div_lt_iff_lt_mul e0).2 (by omega)
    refine Nat.lt_of_lt_of_le ?_ hp
    have h3 : k.format.binade + r % k.format.binade < 2 ^ 60 := by
      have : (2 : Nat) ^ 52 + 2 ^ 52 ≤ 2 ^ 60 := by decide
      omega
    refine Nat.lt_of_lt_of_le (Nat.mul_lt_mul_of_pos_right h3 (Nat.two_pow_pos _)) (Nat.mul_le_mul_left _ (Nat.pow_le_pow_right (by decide) (by omega)))

/-- The sign of a word that is no NaN. -/
def negB (k : FloatKind) (b : Nat) : Bool := decide (k.format.signWeight ≤ b)

theorem word_neg {k : FloatKind} {s : Bool} {r : Nat} (h : r < k.format.signWeight) : negB k (k.format.word s r) = s := by
  unfold negB Format.word
  cases s
  · rw [if_neg (by decide), decide_eq_false (by omega)]
  · rw [if_pos rfl, decide_eq_true (by omega)]

theorem feq_word {k : FloatKind} {a b : Nat} (ha : a < 2 ^ k.format.width) (hb : b < 2 ^ k.format.width) (na : isNan k a = false) (nb : isNan k b = false) :
    (feq k a b && (negB k a == negB k b)) = decide (a = b) := by
  obtain ⟨s, r, rfl, h1, h2⟩ := kap_word ha na
  obtain ⟨t, q, rfl, g1, g2⟩ := kap_word hb nb
  have hlt := k.format.infRung_lt
  have hB : 0 < k.format.binade := Nat.two_pow_pos _
  rw [word_neg (by omega), word_neg (by omega), feq_kap na nb]
  by_cases e : s = t
  · subst e
    simp only [beq_self_eq_true, Bool.and_true]
    apply decide_eq_decide.2
    constructor
    · intro hk
      have : r = q := by
        have hp := huge_pos
        rcases h2 with ⟨h2, h3⟩ | ⟨h2, h3⟩ <;> rcases g2 with ⟨g2, g3⟩ | ⟨g2, g3⟩
        · apply worth_inj hB
          rw [h3, g3] at hk
          cases s <;> simp at hk <;> omega
        · exfalso
          have := worth_huge (k := k) h2
          rw [h3, g3] at hk
          generalize huge = g at *
          cases s <;> simp at hk <;> omega
        · exfalso
          have := worth_huge (k := k) g2
          rw [h3, g3] at hk
          generalize huge = g at *
          cases s <;> simp at hk <;> omega
        · omega
      rw [this]
    · intro h; rw [h]
  · have e2 : (s == t) = false := by simpa using e
    rw [e2, Bool.and_false]
    symm
    rw [decide_eq_false_iff_not]
    intro h
    have h3 := word_neg (k := k) (s := s) (r := r) (by omega)
    have h4 := word_neg (k := k) (s := t) (r := q) (by omega)
    rw [h] at h3
    exact e (h3.symm.trans h4)
end Go.V

namespace Go.V
open Ieee Go.RowKit

theorem con_bits32 {P : Program} {f : FuncId} {fn : Func} (hf : P.funcs[f]? = some fn) (hname : (fn.name == "runtime.NumGoroutine") = false)
    (hb : fn.body.isNone = true) (hn : Extern.findNext fn = none) (he : Extern.find fn = some Extern.MathFloatBits.float32bits) {x : Nat} (hx : isNan .f32 x = false) :
    Con P f [.flt .f32 x] (.val (.int .u32 x)) [] := by
  refine con_flt1 fun b hbx => ?_
  have hbn : isNan .f32 b = false := by rw [hbx.nan]; exact hx
  have := hbx.eq_of hbn
  subst this
  refine con_extern hf hname hb hn he fun w vs hvs => ?_
  obtain ⟨v, vs', rfl, e2, e3⟩ := hvs
  simp only [Rel] at e2
  subst e2
  simp only [RelL] at e3
  subst e3
  exact ⟨_, w, rfl, Below.refl _ _, by simp only [Rel]⟩
theorem con_bits64 {P : Program} {f : FuncId} {fn : Func} (hf : P.funcs[f]? = some fn) (hname : (fn.name == "runtime.NumGoroutine") = false)
    (hb : fn.body.isNone = true) (hn : Extern.findNext fn = none) (he : Extern.find fn = some Extern.MathFloatBits.float64bits) {x : Nat} (hx : isNan .f64 x = false) :
    Con P f [.flt .f64 x] (.val (.int .u64 x)) [] := by
  refine con_flt1 fun b hbx => ?_
  have hbn : isNan .f64 b = false := by rw [hbx.nan]; exact hx
  have := hbx.eq_of hbn
  subst this
  exact con_bits hf hname hb hn he b

def bitsF (x : Nat) : Int := if feq .f32 x x then (x : Int) else 2143289344
def sgB (x : Nat) : Bool := decide (IntKind.i64.wrap ((fcvt .f32 .f64 x : Nat) : Int) < 0)
def sameB (a b : Nat) : Bool := if (!feq .f32 a a || !feq .f32 b b) = true then (!feq .f32 a a && !feq .f32 b b) else (feq .f32 a b && (sgB a == sgB b))

theorem wrap64_neg {n : Nat} (h : n < 18446744073709551616) : decide (IntKind.i64.wrap (n : Int) < 0) = decide (9223372036854775808 ≤ n) := by
  have h2 : IntKind.i64.wrap n = if (n : Int) % 18446744073709551616 ≥ 9223372036854775808 then (n : Int) % 18446744073709551616 - 18446744073709551616 else (n : Int) % 18446744073709551616 := by
    simp only [IntKind.wrap, IntKind.signed, IntKind.bits, Bool.true_and]
    simp
  apply decide_eq_decide.2
  rw [h2]
  split <;> omega

theorem read_sign {k : FloatKind} {b : Nat} (hb : b < 2 ^ k.format.width) {g : Bool} {m : Nat} {i : Int} (h : k.format.read b = .number g m i) : negB k b = g := by
  have hw : 2 ^ k.format.width = 2 * k.format.signWeight := width_eq k
  have hpos : 0 < k.format.signWeight := Nat.two_pow_pos _
  have hg : g = (b / k.format.signWeight % 2 == 1) := by
    unfold Format.read at h
    simp only at h
    split at h
    · simp only [Datum.number.injEq] at h; exact h.1.symm
    · split at h
      · simp only [Datum.number.injEq] at h; exact h.1.symm
      · split at h <;> cases h
  rw [hg]
  unfold negB
  have h1 := Nat.div_add_mod b k.format.signWeight
  have h2 : b / k.format.signWeight < 2 := (Nat.div_lt_iff_lt_mul hpos).2 (by omega)
  have h3 := Nat.mod_lt b hpos
  generalize b / k.format.signWeight = q at h1 h2 ⊢
  rcases Nat.lt_or_ge q 1 with h4 | h4
  · have : q = 0 := by omega
    subst this
    rw [Nat.mul_zero] at h1
    rw [decide_eq_false (by omega)]; rfl
  · have : q = 1 := by omega
    subst this
    rw [Nat.mul_one] at h1
    rw [decide_eq_true (by omega)]; rfl

theorem fcvt_lt (x : Nat) : fcvt .f32 .f64 x < 2 ^ FloatKind.f64.format.width := by
  unfold fcvt
  rw [if_neg (by decide)]
  split
  · exact qnan_lt _
  · exact canon_lt (FloatKind.f64.format.write_lt _)
  · exact canon_lt (FloatKind.f64.format.write_lt _)

theorem sgB_neg {a : Nat} (ha : a < 2 ^ FloatKind.f32.format.width) (hn : isNan .f32 a = false) : sgB a = negB .f32 a := by
  have e1 : (2 : Nat) ^ FloatKind.f64.format.width = 18446744073709551616 := by decide +kernel
  have e2 : FloatKind.f64.format.signWeight = 9223372036854775808 := by decide +kernel
  have hw := fcvt_lt a
  have hs : sgB a = negB .f64 (fcvt .f32 .f64 a) := by
    unfold sgB negB
    rw [wrap64_neg (by rw [← e1]; exact hw), e2]
  rw [hs]
  cases hr : FloatKind.f32.format.read a with
  | nan s t => unfold isNan at hn; rw [hr] at hn; cases hn
  | number g m e =>
    obtain ⟨m', i, h2⟩ := widen_num hr
    rw [read_sign hw h2, read_sign ha hr]
  | infinity g =>
    obtain ⟨s, r, rfl, h1, h2⟩ := kap_word ha hn
    have hlt := FloatKind.f32.format.infRung_lt
    rw [word_neg (by omega)]
    have hk : kap .f32 (FloatKind.f32.format.word s r) = if g then -(huge : Int) else huge := by unfold kap; rw [hr]
    have hp := huge_pos
    have hsg : s = g := by
      rcases h2 with ⟨h2, h3⟩ | ⟨h2, h3⟩
      · have := worth_huge (k := .f32) h2
        rw [h3] at hk
        generalize huge = q at *
        cases s <;> cases g <;> simp at hk <;> first | rfl | omega
      · rw [h3] at hk
        generalize huge = q at *
        cases s <;> cases g <;> simp at hk <;> first | rfl | omega
    subst hsg
    have h4 : fcvt .f32 .f64 (FloatKind.f32.format.word s r) = canon .f64 (FloatKind.f64.encode (.infinity s)) := by
      unfold fcvt FloatKind.decode; rw [if_neg (by decide), hr]
    rw [h4]
    cases s <;> decide +kernel

theorem feq_nan (a : Nat) : feq .f32 a a = !isNan .f32 a := by
  cases hn : isNan .f32 a
  · rw [feq_self hn]; rfl
  · rw [feq_nan_left hn]; rfl

theorem bits_canon {a : Nat} (h : FV .f32 a a) : bitsF a = (a : Int) := by
  unfold bitsF
  rw [feq_nan]
  cases hn : isNan .f32 a
  · rfl
  · have := h.2
    unfold canon at this
    rw [if_pos hn] at this
    rw [← this]; rfl

theorem same_eq {a b : Nat} (ha : FV .f32 a a) (hb : FV .f32 b b) : sameB a b = decide (a = b) := by
  have qn : ∀ {a : Nat}, FV .f32 a a → isNan .f32 a = true → a = qnan .f32 := fun {a} h hn => by
    have := h.2
    unfold canon at this
    rw [if_pos hn] at this
    exact this.symm
  unfold sameB
  rw [feq_nan, feq_nan]
  cases na : isNan .f32 a <;> cases nb : isNan .f32 b
  · simp only [Bool.not_false, Bool.not_true, Bool.or_self, Bool.false_eq_true, if_false]
    rw [sgB_neg ha.1 na, sgB_neg hb.1 nb, feq_word ha.1 hb.1 na nb]
  · simp only [Bool.not_false, Bool.not_true, Bool.or_true, if_true, Bool.and_true, Bool.and_false, Bool.false_and]
    symm
    rw [decide_eq_false_iff_not]
    intro e; rw [e, nb] at na; cases na
  · simp only [Bool.not_false, Bool.not_true, Bool.or_false, Bool.true_or, if_true, Bool.and_false]
    symm
    rw [decide_eq_false_iff_not]
    intro e; rw [e, nb] at na; cases na
  · rw [qn ha na, qn hb nb]
    simp

/-- Two lists, one by one. -/
def eqL {α : Type} (p : α → α → Bool) : List α → List α → Bool
  | [], [] => true
  | x :: l, y :: r => p x y && eqL p l r
  | _, _ => false
theorem eqL_ne {α : Type} {p : α → α → Bool} : ∀ (l r : List α), l.length ≠ r.length → eqL p l r = false
  | [], [], h => absurd rfl h
  | [], _ :: _, _ => rfl
  | _ :: _, [], _ => rfl
  | x :: l, y :: r, h => by rw [eqL, eqL_ne l r (by simpa using h), Bool.and_false]
theorem eqL_dec {α : Type} [DecidableEq α] {p : α → α → Bool} : ∀ (l r : List α), (∀ x ∈ l, ∀ y ∈ r, p x y = decide (x = y)) → eqL p l r = decide (l = r)
  | [], [], _ => by simp [eqL]
  | [], _ :: _, _ => by simp [eqL]
  | _ :: _, [], _ => by simp [eqL]
  | x :: l, y :: r, h => by
    rw [eqL, h x (by simp) y (by simp), eqL_dec l r (fun a ha b hb => h a (by simp [ha]) b (by simp [hb]))]
    by_cases e : x = y <;> simp [e]
end Go.V

namespace Go.V
open Go.RowKit

section
variable {P : Program} {Γ : Tab} {N : Nat} {w0 : Base} {own : List Nat} {Q : Exit → Act → World → Prop}
theorem SW.any (hΓ : TabOK P Γ) (hm : P.follows .mixedOrders = true) {G : List AV} {E : Env} {H : Heap} {Q : Exit → Env → Heap → Prop} {id : Nat} {ops : Array Oper} (own qs : List Nat) (hB : cB ops qs = true) (hq : Nat.ble qs.length ops.toList.length = true)
    (h : vqs N ops.toList qs E fun E' => vany P Γ N own ops.toList (Nat.sub ops.toList.length qs.length) qs.reverse E' H fun E' H' => Q .normal E' H') : SW P N G (.region id ops true) E H Q := by
  intro w0 φ a w hg hs
  unfold cB at hB
  simp only [Bool.and_eq_true] at hB
  obtain ⟨⟨hb, hsel⟩, hf⟩ := hB
  let Q0 : Exit → Act → World → Prop := fun e a w => match e with
    | .normal => Post N w0 Q .normal a w
    | _ => False
  refine wp_mono (Q := Q0) (wp_region_any hm ?_) ?_
  · have hle := Nat.le_of_ble_eq_true hq
    have := vqs_sound (P := P) (N := N) (w0 := w0) (own := own) (Q := Q0) (K := fun E' H' => Q .normal E' H') (m := ops.toList.length - qs.length) (dn := qs.reverse) (H := H) hΓ (ops := ops.toList) (by simpa using hb) (by simpa using hsel) (fun _ _ _ h => h)
      (fun a w h => h) qs [] (Array.replicate ops.size false) E φ a { w with drawn := w.drawn + 1 } ⟨by simp, fun i _ => by rw [getD_replicate_false]; rfl⟩
      (by rw [show ops.toList.length = ops.size by simp] at *; rw [unl_none]; omega) (by simp) (by simpa using hf) h hs.drawn
    rw [Nat.sub_add_cancel hle] at this
    simpa using this
  · intro e a w h
    cases e <;> first | exact h | exact h.elim

/-- The drawn region that comes next in a function. -/
def regN : Code → Option (List Oper)
  | .seq (.region _ ops true) _ => some ops.toList
  | _ => none

/-- A region whose order is drawn, order by order, behind a function's first 'n' parts. -/
theorem SF.any {f : FuncId} {r : AV} {Hr : Heap} {G : List AV} {E : Env} {H : Heap} (hΓ : TabOK P Γ) (hm : P.follows .mixedOrders = true) (n : Nat) (own qs : List Nat) {X : Type} (mkE : X → Env) (mkH : X → Heap) (I : X → Prop)
    (hk : ((takeP n (bodyOf P f)).length == n && (match regN (drp n (bodyOf P f)) with
      | some l => cB l.toArray qs && Nat.ble qs.length l.length
      | none => false)) = true)
    (h1 : match regN (drp n (bodyOf P f)) with
      | some l => vqs N l qs E fun E' => vany P Γ N own l (Nat.sub l.length qs.length) qs.reverse E' H fun E' H' => ∃ x, Weak G E' H' (mkE x) (mkH x) ∧ I x
      | none => False)
    (h2 : ∀ x, I x → SF P Γ N G f (n + 1) (mkE x) (mkH x) r Hr) : SF P Γ N G f n E H r Hr := by
  simp only [Bool.and_eq_true, beq_iff_eq] at hk
  obtain ⟨hk1, hk2⟩ := hk
  have e1 := drp_drp n 1 (bodyOf P f) hk1
  unfold SF
  generalize hc : drp n (bodyOf P f) = c at *
  unfold regN at h1 hk2
  split at h1
  case h_2 => exact h1.elim
  rename_i l hl
  split at hl
  case h_2 => cases hl
  rename_i id ops y
  cases hl
  simp only [Bool.and_eq_true] at hk2
  have h3 := SW.any (P := P) (Γ := Γ) (N := N) (G := G) (E := E) (H := H) (id := id) (Q := fun e E' H' => match e with
    | .normal => ∃ x, Weak G E' H' (mkE x) (mkH x) ∧ I x
    | _ => False) hΓ hm own qs (by simpa using hk2.1) hk2.2 h1
  intro w0 φ a w hg hs
  refine wp_seq (wp_mono (h3 w0 φ a w hg hs) ?_)
  rintro e a' w' ⟨E1, H1, φ1, hq, hs1⟩
  cases e with
  | normal =>
    obtain ⟨x, k1, k2⟩ := hq
    rw [← hg] at k1
    obtain ⟨φ2, hs2⟩ := hs1.less k1
    have h4 := h2 x k2
    unfold SF at h4
    rw [← e1] at h4
    exact h4 w0 φ2 a' w' hg hs2
  | exit id => exact hq.elim
  | goto l => exact hq.elim
  | ret => exact hq.elim
  | panic ch => exact hq.elim
  | outgrown => exact hq.elim
end
end Go.V
