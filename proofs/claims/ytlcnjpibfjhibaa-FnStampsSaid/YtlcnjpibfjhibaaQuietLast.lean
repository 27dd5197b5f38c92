/- A drawn region all of whose operations but the last are quiet in a class of worlds, the last one waiting for all: walked once, in the order of the text. -/
import Derived.Test.YtlcnjpibfjhibaaQ0
import Derived.Lib.QuietBelow
set_option linter.unusedVariables false
set_option linter.unusedSimpArgs false
namespace Go.Proofs.Ytlcnjpibfjhibaa.Q
open Go.RowKit
/-- Each operation waits for earlier ones alone; the last one waits for each. -/
def lastB (l : List Oper) (o : Oper) : Bool :=
  ((List.range l.length).all fun i => match l[i]? with | some x => x.after.all fun e => !Region.binds .any e || decide (e.on < i) | none => true) &&
  ((List.range l.length).all fun i => o.after.any fun e => Region.binds .any e && e.on == i) && (o.after.all fun e => !Region.binds .any e || decide (e.on < l.length))
section
variable {P : Program} {l : List Oper} {o : Oper} {C : World → Prop} {Q : Exit → Act → World → Prop} {Qh : Act → Prop}
theorem lastB_head (h : lastB l o = true) {i : Nat} {x : Oper} (hx : l[i]? = some x) : ∀ e ∈ x.after, Region.binds .any e = true → e.on < i := by
  intro e he hb
  have hi : i < l.length := (List.getElem?_eq_some_iff.1 hx).1
  simp only [lastB, Bool.and_eq_true] at h
  have h1 := List.all_eq_true.1 h.1.1 i (List.mem_range.2 hi)
  rw [hx] at h1
  have h2 := Array.all_eq_true'.1 h1 e he
  simpa [hb] using h2
theorem lastB_last (h : lastB l o = true) {i : Nat} (hi : i < l.length) : ∃ e ∈ o.after, Region.binds .any e = true ∧ e.on = i := by
  simp only [lastB, Bool.and_eq_true] at h
  have h1 := List.all_eq_true.1 h.1.2 i (List.mem_range.2 hi)
  obtain ⟨e, he, hb⟩ := Array.any_eq_true'.1 h1
  simp only [Bool.and_eq_true, beq_iff_eq] at hb
  exact ⟨e, he, hb.1, hb.2⟩
theorem lastB_lt (h : lastB l o = true) : ∀ e ∈ o.after, Region.binds .any e = true → e.on < l.length := by
  intro e he hb
  simp only [lastB, Bool.and_eq_true] at h
  have h2 := Array.all_eq_true'.1 h.2 e he
  simpa [hb] using h2
theorem getD_push {A : Array Bool} {i : Nat} {d : Bool} (hi : i < A.size) : (A.push false).getD i d = A.getD i d := by
  simp [Array.getD, hi, Nat.lt_succ_of_lt hi, Array.getElem_push_lt hi]
theorem ready_head (h : lastB l o = true) {listed : Array Bool} (hs : listed.size = l.length) {j : Nat} (hj : j < l.length) :
    j ∈ Region.ready .any (l ++ [o]).toArray (listed.push false) ↔ j ∈ Region.ready .any l.toArray listed := by
  rw [mem_ready, mem_ready]
  have e1 : ((l ++ [o]).toArray)[j]? = (l.toArray)[j]? := by simp [List.getElem?_append_left hj]
  rw [e1, getD_push (by omega)]
  refine and_congr_right fun _ => exists_congr fun x => and_congr_right fun hx => ?_
  have hx' : l[j]? = some x := by simpa using hx
  refine forall_congr' fun e => forall_congr' fun he => forall_congr' fun hb => ?_
  have := lastB_head h hx' e he hb
  rw [getD_push (by omega)]
theorem ready_last (h : lastB l o = true) {listed : Array Bool} (hs : listed.size = l.length) :
    l.length ∈ Region.ready .any (l ++ [o]).toArray (listed.push false) ↔ ∀ i, i < l.length → listed.getD i false = true := by
  rw [mem_ready]
  constructor
  · rintro ⟨_, x, hx, hall⟩ i hi
    have hx' : o = x := by simpa using hx
    subst hx'
    obtain ⟨e, he, hb, rfl⟩ := lastB_last h hi
    have := hall e he hb
    rwa [getD_push (by omega)] at this
  · intro hall
    refine ⟨by simp [Array.getD, hs, Array.getElem_push], o, by simp, fun e he hb => ?_⟩
    have := lastB_lt h e he hb
    rw [getD_push (by omega)]
    exact hall _ this
/-- An operation that has not come up and is the first such one may come up. -/
theorem ready_some (h : lastB l o = true) {listed : Array Bool} (hs : listed.size = l.length) : Region.ready .any (l ++ [o]).toArray (listed.push false) ≠ [] := by
  intro he
  by_cases hall : ∀ i, i < l.length → listed.getD i false = true
  · have := (ready_last (o := o) h hs).2 hall
    rw [he] at this
    cases this
  · have key : ∀ i, i < l.length → listed.getD i false = true := by
      intro i
      induction i using Nat.strongRecOn with
      | _ i ih =>
        intro hi
        cases hq : listed.getD i false with
        | true => rfl
        | false =>
          have hx : l[i]? = some l[i] := List.getElem?_eq_getElem hi
          have : i ∈ Region.ready .any l.toArray listed := by
            rw [mem_ready]
            refine ⟨?_, l[i], by simp [hi], fun e he hb => ?_⟩
            · have hlt : i < listed.size := by omega
              simp [Array.getD, hlt] at hq ⊢
              exact hq
            · have := lastB_head h hx e he hb
              exact ih _ this (by omega)
          rw [← ready_head (o := o) h hs hi, he] at this
          cases this
    exact hall key
theorem wpAny_over {ops : Array Oper} {listed : Array Bool} {a : Act} {w : World} (hr : Region.ready .any ops listed = []) (hq : Q .normal a w) : ∀ f, wpAny P .any ops Q f listed a w
  | 0 => ⟨hr, hq⟩
  | f + 1 => ⟨fun _ => hq, fun i hi => by rw [hr] at hi; cases hi⟩
theorem yielded_head {j : Nat} (hj : j < l.length) (t : Array Value) : yielded (l ++ [o]).toArray t j = yielded l.toArray t j := by
  unfold yielded
  simp [List.getElem?_append_left hj]
def guardB (l : List Oper) : Bool := l.all fun x => match x.guard with | some (j, _) => decide (j < l.length) | none => true
theorem wanted_head (hg : guardB l = true) {i : Nat} {x : Oper} (hx : l[i]? = some x) (t : Array Value) : Region.wanted x (yielded (l ++ [o]).toArray t) = Region.wanted x (yielded l.toArray t) := by
  have h1 := List.all_eq_true.1 hg x (List.mem_of_getElem? hx)
  unfold Region.wanted
  split
  · rfl
  · rename_i j want hgj
    rw [hgj] at h1
    rw [yielded_head (by simpa using h1)]
theorem push_set {A : Array Bool} {i : Nat} (hi : i < A.size) : (A.push false).setIfInBounds i true = (A.setIfInBounds i true).push false := by
  apply Array.ext_getElem?
  intro j
  simp only [Array.getElem?_setIfInBounds, Array.getElem?_push, Array.size_push, Array.size_setIfInBounds]
  by_cases h1 : i = j
  · subst h1
    simp [hi, Nat.lt_succ_of_lt hi, Nat.ne_of_lt hi]
  · simp [h1]
theorem all_listed {listed : Array Bool} (hs : listed.size = l.length) (hall : ∀ i, i < l.length → listed.getD i false = true) : Region.ready .any (l ++ [o]).toArray ((listed.push false).setIfInBounds l.length true) = [] := by
  rw [List.eq_nil_iff_forall_not_mem]
  intro j hj
  rw [mem_ready] at hj
  obtain ⟨h1, x, hx, _⟩ := hj
  have hjl : j < l.length + 1 := by
    have := (Array.getElem?_eq_some_iff.1 hx).1
    simpa using this
  by_cases hjn : j = l.length
  · subst hjn
    simp [Array.getD, hs] at h1
  · have hjl2 : j < listed.size := by omega
    have h2 := hall j (by omega)
    simp only [Array.getD_eq_getD_getElem?, Array.getElem?_setIfInBounds, Array.getElem?_push] at h1 h2
    rw [if_neg (Ne.symm hjn), if_neg (by omega)] at h1
    rw [Array.getElem?_eq_getElem hjl2] at h1 h2
    simp only [Option.getD_some] at h1 h2
    rw [h1] at h2
    cases h2
theorem wpOp_last (hlast : ∀ a w, C w → Qh a → wpList P (l ++ [o]).toArray Q [o] a w) {listed : Array Bool} (hs : listed.size = l.length) (hall : ∀ i, i < l.length → listed.getD i false = true) {a : Act} {w : World} (hC : C w) (hq : Qh a) (f : Nat) :
    wpOp P (l ++ [o]).toArray Q l.length (wpAny P .any (l ++ [o]).toArray Q f ((listed.push false).setIfInBounds l.length true)) a w := by
  have h0 : ((l ++ [o]).toArray)[l.length]? = some o := by simp
  have hw : wpOp P (l ++ [o]).toArray Q l.length (wpList P (l ++ [o]).toArray Q []) a w := by
    unfold wpOp
    simp only [h0]
    exact hlast a w hC hq
  exact wpOp_mono (fun a' w' h' => wpAny_over (all_listed hs hall) h' f) hw
theorem wpAny_quiet_last (h : lastB l o = true) (hg : guardB l = true) (hlast : ∀ a w, C w → Qh a → wpList P (l ++ [o]).toArray Q [o] a w) :
    ∀ (fuel : Nat) (listed : Array Bool) (a : Act) (w : World), listed.size = l.length → C w → wpAnyQ P .any l.toArray C Qh fuel listed a → wpAny P .any (l ++ [o]).toArray Q (fuel + 1) (listed.push false) a w := by
  have top : ∀ {listed : Array Bool} {i : Nat}, i ∈ Region.ready .any (l ++ [o]).toArray (listed.push false) → ¬ i < l.length → i = l.length := fun hi hn => by
    obtain ⟨_, x, hx, _⟩ := mem_ready.1 hi
    have := (Array.getElem?_eq_some_iff.1 hx).1
    simp at this
    omega
  have none_ : ∀ {listed : Array Bool}, listed.size = l.length → (∀ i, i < l.length → listed.getD i false = true) → Region.ready .any l.toArray listed = [] := fun {listed} hs hall => by
    rw [List.eq_nil_iff_forall_not_mem]
    intro j hj
    obtain ⟨h1, x, hx, _⟩ := mem_ready.1 hj
    have hjl : j < l.length := by
      have := (Array.getElem?_eq_some_iff.1 hx).1
      simpa using this
    have hjl2 : j < listed.size := by omega
    have h2 := hall j hjl
    simp only [Array.getD_eq_getD_getElem?] at h1 h2
    rw [Array.getElem?_eq_getElem hjl2] at h1 h2
    simp only [Option.getD_some] at h1 h2
    rw [h1] at h2
    cases h2
  intro fuel
  induction fuel with
  | zero =>
    intro listed a w hs hC hq
    refine ⟨fun h0 => absurd h0 (ready_some h hs), fun i hi => ?_⟩
    by_cases hil : i < l.length
    · rw [ready_head h hs hil, hq.1] at hi
      cases hi
    · have := top hi hil
      subst this
      exact wpOp_last hlast hs ((ready_last h hs).1 hi) hC hq.2 0
  | succ f ih =>
    intro listed a w hs hC hq
    refine ⟨fun h0 => absurd h0 (ready_some h hs), fun i hi => ?_⟩
    by_cases hil : i < l.length
    · have hi' := (ready_head h hs hil).1 hi
      have hqo := hq.2 i hi'
      have hx : l[i]? = some l[i] := List.getElem?_eq_getElem hil
      have hx1 : (l.toArray)[i]? = some l[i] := by simp [hil]
      have hx2 : ((l ++ [o]).toArray)[i]? = some l[i] := by simp [List.getElem?_append_left hil, hil]
      have step : ∀ a' w', C w' → wpAnyQ P .any l.toArray C Qh f (listed.setIfInBounds i true) a' → wpAny P .any (l ++ [o]).toArray Q (f + 1) ((listed.push false).setIfInBounds i true) a' w' := fun a' w' hC' hk => by
        rw [push_set (by omega)]
        exact ih _ a' w' (by simp [hs]) hC' hk
      unfold qOp at hqo
      unfold wpOp
      simp only [hx1] at hqo
      simp only [hx2]
      rw [wanted_head hg hx]
      split
      · rename_i hw
        simp only [hw, if_true] at hqo
        exact .inl (Oper.wp_of_quiet hC step hqo)
      · rename_i hw
        simp only [hw] at hqo
        exact step _ _ hC hqo
    · have := top hi hil
      subst this
      have hall := (ready_last h hs).1 hi
      exact wpOp_last hlast hs hall hC (hq.1 (none_ hs hall)) (f + 1)
/-- A drawn region: all but the last operation quiet where what was there stays as it was ('Below'); the last one then is carried out in some such world. -/
theorem wp_region_quiet_last {id : Nat} {a : Act} {w : World} (hm : P.follows .mixedOrders = true) (h : lastB l o = true) (hg : guardB l = true) (hB : Region.lexB .any l.toArray = true)
    (hq : wpQuiet P l.toArray (fun w' => ∃ p : Regrown, w' = Go.Sort.grow (redrawn w p.d) p.os) (fun a' => ∀ w', (∃ p : Regrown, w' = Go.Sort.grow (redrawn w p.d) p.os) → wpList P (l ++ [o]).toArray Q [o] a' w') l a) :
    (Code.region id (l ++ [o]).toArray true).wp P Q a w := by
  refine wp_region_any hm ?_
  have hlex : wpAnyQ P .any l.toArray (fun w' => ∃ p : Regrown, w' = Go.Sort.grow (redrawn w p.d) p.os) (fun a' => ∀ w', (∃ p : Regrown, w' = Go.Sort.grow (redrawn w p.d) p.os) → wpList P (l ++ [o]).toArray Q [o] a' w') l.length (Array.replicate l.length false) a := by
    simp only [Region.lexB, Bool.and_eq_true] at hB
    exact wpAnyQ_lex hB.1 l 0 _ a (by simp) (by simpa using hB.2) hq
  have := wpAny_quiet_last (P := P) (Q := Q) h hg (fun a' w' hC hh => hh w' hC) l.length _ a { w with drawn := w.drawn + 1 } (by simp) ⟨⟨w.drawn + 1, #[]⟩, by rw [Go.Sort.grow_empty]; rfl⟩ hlex
  rw [show (l ++ [o]).toArray.size = l.length + 1 by simp, Array.replicate_succ]
  exact this
/-- The same at a region that is written out: n: how many operations stand ahead of the last one. -/
theorem wp_region_quiet_last_at (n : Nat) {ls : List Oper} {id : Nat} {a : Act} {w : World} (hl : ls = ls.take n ++ [o]) (hm : P.follows .mixedOrders = true) (h : lastB (ls.take n) o = true) (hg : guardB (ls.take n) = true) (hB : Region.lexB .any (ls.take n).toArray = true)
    (hq : wpQuiet P (ls.take n).toArray (fun w' => ∃ p : Regrown, w' = Go.Sort.grow (redrawn w p.d) p.os) (fun a' => ∀ w', (∃ p : Regrown, w' = Go.Sort.grow (redrawn w p.d) p.os) → wpList P ls.toArray Q [o] a' w') (ls.take n) a) :
    (Code.region id ls.toArray true).wp P Q a w := by
  have := wp_region_quiet_last (id := id) (a := a) (w := w) (P := P) (Q := Q) (l := ls.take n) (o := o) hm h hg hB (by rw [← hl]; exact hq)
  rwa [← hl] at this
end
end Go.Proofs.Ytlcnjpibfjhibaa.Q
