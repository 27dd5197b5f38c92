/- What the rings are: each goes round, the first one of each is its least, all that lies wrong is in one. -/
import Derived.Test.YtgjpnamckkedfaaSwapMath
set_option linter.unusedVariables false
set_option linter.unusedSimpArgs false
namespace Go.Proofs.Ytgjpnamckkedfaa.Q
open Go.RowKit
/-- Each one leads to the next one. -/
def Seg (f : Nat → Nat) : List Nat → Prop
  | a :: b :: r => f a = b ∧ Seg f (b :: r)
  | _ => True
theorem Seg.split (f : Nat → Nat) (x : Nat) : ∀ (l1 l2 : List Nat), Seg f (l1 ++ x :: l2) ↔ Seg f (l1 ++ [x]) ∧ Seg f (x :: l2)
  | [], l2 => by simp [Seg]
  | [a], l2 => by
    cases l2 with
    | nil => simp [Seg]
    | cons b r => simp [Seg]
  | a :: b :: l1, l2 => by
    have := Seg.split f x (b :: l1) l2
    simp only [List.cons_append, Seg] at this ⊢
    rw [this]
    exact ⟨fun h => ⟨⟨h.1, h.2.1⟩, h.2.2⟩, fun h => ⟨h.1.1, h.1.2, h.2⟩⟩
/-- A ring: the last one leads to the first one. -/
def Ring (f : Nat → Nat) : List Nat → Prop
  | [] => False
  | a :: r => Seg f (a :: r ++ [a])
theorem Seg.congr {f g : Nat → Nat} : ∀ (l : List Nat), (∀ x ∈ l.dropLast, f x = g x) → Seg f l → Seg g l
  | [], _, _ => trivial
  | [a], _, _ => trivial
  | a :: b :: r, h, hs => by
    refine ⟨by rw [← h a (by simp [List.dropLast])]; exact hs.1, Seg.congr (b :: r) (fun x hx => h x ?_) hs.2⟩
    rw [List.dropLast_cons_cons]
    exact List.mem_cons_of_mem _ hx
theorem Ring.congr {f g : Nat → Nat} {c : List Nat} (h : ∀ x ∈ c, f x = g x) (hc : Ring f c) : Ring g c := by
  cases c with
  | nil => exact hc
  | cons a r =>
    refine Seg.congr _ (fun x hx => h x ?_) hc
    rw [List.dropLast_concat] at hx
    exact hx
/-- A ring may begin anywhere. -/
theorem Ring.rot {f : Nat → Nat} {x : Nat} {l1 l2 : List Nat} (h : Ring f (l1 ++ x :: l2)) : Ring f (x :: l2 ++ l1) := by
  cases l1 with
  | nil => simpa using h
  | cons a r =>
    have h' : Seg f (a :: r ++ x :: (l2 ++ [a])) := by simpa [Ring] using h
    obtain ⟨h1, h2⟩ := (Seg.split f x (a :: r) (l2 ++ [a])).1 h'
    show Seg f (x :: l2 ++ (a :: r) ++ [x])
    have : x :: l2 ++ (a :: r) ++ [x] = (x :: l2) ++ a :: (r ++ [x]) := by simp
    rw [this]
    exact (Seg.split f a (x :: l2) (r ++ [x])).2 ⟨by simpa using h2, by simpa using h1⟩
section
variable {W G : List Int}
/-- One ring, over Nat. -/
def ringN (W G : List Int) : Nat → List Bool → Nat → List Nat × List Bool
  | 0, met, _ => ([], met)
  | f + 1, met, k => if met.getD k false = true then ([], met) else (k :: (ringN W G f (met.set k true) (nx W G k)).1, (ringN W G f (met.set k true) (nx W G k)).2)
def castL (l : List Nat) : List Int := l.map fun (x : Nat) => (x : Int)
theorem ringL_N (f : Nat) : ∀ (met : List Bool) (acc : List Int) (k : Nat), ringL W G f met acc k = (acc ++ castL (ringN W G f met k).1, (ringN W G f met k).2) := by
  induction f with
  | zero => intro met acc k; simp [ringL, ringN, castL]
  | succ f ih =>
    intro met acc k
    rw [ringL, ringN]
    split
    · simp [castL]
    · rw [show (whereL W (G.getD k 0)).toNat = nx W G k from rfl, ih]
      simp [castL]
/-- The marks of spec: what is marked is closed. -/
structure Marks (W G : List Int) (met : List Bool) : Prop where
  len : met.length = W.length
  wrong : ∀ j, j < W.length → met.getD j false = true → fixB W G j = false
  closed : ∀ x, x < W.length → met.getD (nx W G x) false = true → met.getD x false = true
theorem count_tf (l : List Bool) : l.count true + l.count false = l.length := by
  induction l with
  | nil => rfl
  | cons b l ih => cases b <;> simp <;> omega
theorem ringN_facts (hw : Sw W G) (i0 : Nat) (f : Nat) : ∀ (mS : List Bool) (k : Nat), mS.length = W.length → (∀ j, j < W.length → mS.getD j false = true → fixB W G j = false) → k < W.length → fixB W G k = false → mS.count false < f →
    (∀ x, x < W.length → mS.getD (nx W G x) false = true → mS.getD x false = true ∨ nx W G x = i0) →
    (mS.getD k false = true → k = i0) → ((k = i0 ∧ mS.getD k false = false) ∨ ∃ p, p < W.length ∧ nx W G p = k ∧ mS.getD p false = true) →
    Marks W G (ringN W G f mS k).2 ∧ (∀ j, j < W.length → ((ringN W G f mS k).2.getD j false = true ↔ mS.getD j false = true ∨ j ∈ (ringN W G f mS k).1)) ∧ (ringN W G f mS k).2.count true = mS.count true + (ringN W G f mS k).1.length ∧
      (∀ x ∈ (ringN W G f mS k).1, x < W.length ∧ mS.getD x false = false ∧ fixB W G x = false) ∧ (ringN W G f mS k).1.Nodup ∧ Seg (nx W G) ((ringN W G f mS k).1 ++ [i0]) ∧ ((ringN W G f mS k).1.head?.getD i0 = k) := by
  induction f with
  | zero => intro mS k _ _ _ _ h; omega
  | succ f ih =>
    intro mS k hl hwr hk hf hc hcl hst hpr
    cases hm : mS.getD k false with
    | true =>
      have e : ringN W G (f + 1) mS k = ([], mS) := by rw [ringN, if_pos hm]
      rw [e]
      refine ⟨⟨hl, hwr, fun x hx hxm => ?_⟩, fun j hj => by simp, by simp, fun x hx => by simp at hx, List.nodup_nil, by simp [Seg], by simp [hst hm]⟩
      rcases hcl x hx hxm with h | h
      · exact h
      · rcases hpr with ⟨_, h2⟩ | ⟨p, hp, hpk, hpm⟩
        · rw [hm] at h2; cases h2
        · have : x = p := hw.nx_inj hx hp (by rw [h, hpk, hst hm])
          rw [this]; exact hpm
    | false =>
      have e : ringN W G (f + 1) mS k = (k :: (ringN W G f (mS.set k true) (nx W G k)).1, (ringN W G f (mS.set k true) (nx W G k)).2) := by
        rw [ringN, if_neg (by simp only [hm]; decide)]
      rw [e]
      have hkS : k < mS.length := by omega
      have hsp := hw.nx_spec hk
      have hne : nx W G k ≠ k := fun e => by rw [(hw.nx_fix hk).2 e] at hf; cases hf
      obtain ⟨r1, r2, r3, r4, r5, r6, r7⟩ := ih (mS.set k true) (nx W G k) (by rw [List.length_set, hl]) (fun j hj hmj => by
          rw [getD_set mS k j hkS] at hmj
          split at hmj
          · rename_i e; rw [e]; exact hf
          · exact hwr j hj hmj) hsp.1 (hw.nx_wrong hk hf) (by have := unmet_set mS k hkS hm; omega)
        (fun x hx hxm => by
          rw [getD_set mS k _ hkS] at hxm ⊢
          by_cases hxk : x = k
          · rw [if_pos hxk]; exact .inl rfl
          · rw [if_neg hxk]
            by_cases hnk : nx W G x = k
            · rcases hpr with ⟨h1, _⟩ | ⟨p, hp, hpk, hpm⟩
              · right; rw [hnk, h1]
              · left
                have : x = p := hw.nx_inj hx hp (by rw [hnk, hpk])
                rw [this]; exact hpm
            · rw [if_neg hnk] at hxm
              exact hcl x hx hxm)
        (fun h => by
          rw [getD_set mS k _ hkS, if_neg hne] at h
          rcases hcl k hk h with h1 | h1
          · rw [hm] at h1; cases h1
          · exact h1)
        (.inr ⟨k, hk, rfl, by rw [getD_set mS k _ hkS, if_pos rfl]⟩)
      refine ⟨r1, fun j hj => ?_, ?_, fun x hx => ?_, ?_, ?_, rfl⟩
      · rw [r2 j hj, getD_set mS k j hkS]
        by_cases hjk : j = k
        · subst hjk; simp
        · rw [if_neg hjk, List.mem_cons]
          exact ⟨fun h => h.elim .inl (fun h => .inr (.inr h)), fun h => h.elim .inl (fun h => h.elim (fun h => absurd h hjk) .inr)⟩
      · have h1 := count_tf mS
        have h2 := count_tf (mS.set k true)
        have h3 := unmet_set mS k hkS hm
        rw [List.length_set] at h2
        rw [r3, List.length_cons]
        omega
      · rcases List.mem_cons.1 hx with rfl | hx
        · exact ⟨hk, hm, hf⟩
        · obtain ⟨g1, g2, g3⟩ := r4 x hx
          refine ⟨g1, ?_, g3⟩
          rw [getD_set mS k x hkS] at g2
          split at g2
          · cases g2
          · exact g2
      · refine List.nodup_cons.2 ⟨fun hx => ?_, r5⟩
        have := (r4 k hx).2.1
        rw [getD_set mS k k hkS, if_pos rfl] at this
        cases this
      · cases hr : (ringN W G f (mS.set k true) (nx W G k)).1 with
        | nil =>
          rw [hr] at r7
          simp at r7
          simp [Seg, r7]
        | cons y r =>
          rw [hr] at r6 r7
          simp only [List.head?_cons, Option.getD_some] at r7
          simp only [List.cons_append]
          exact ⟨r7.symm, r6⟩
/-- What is said of all rings, i stations being looked at. -/
structure Rs (W G : List Int) (i : Nat) (met : List Bool) (out : List (List Nat)) : Prop where
  marks : Marks W G met
  mem : ∀ j, j < W.length → (met.getD j false = true ↔ j ∈ out.flatten)
  cnt : met.count true = out.flatten.length
  seen : ∀ j, j < i → j < W.length → fixB W G j = false → met.getD j false = true
  ring : ∀ c ∈ out, Ring (nx W G) c ∧ 2 ≤ c.length ∧ c.headD 0 < i ∧ ∀ x ∈ c, c.headD 0 ≤ x ∧ x < W.length
  nodup : out.flatten.Nodup
  rise : (out.map fun c => c.headD 0).Pairwise (fun a b => a < b)
theorem Rs.start (W G : List Int) : Rs W G 0 (List.replicate W.length false) [] := by
  have hf : ∀ j, (List.replicate W.length false).getD j false = false := fun j => by
    rw [List.getD_eq_getElem?_getD, List.getElem?_replicate]
    split <;> rfl
  refine ⟨⟨by simp, fun j _ h => absurd h (by rw [hf]; decide), fun x _ h => absurd h (by rw [hf]; decide)⟩, fun j _ => by rw [hf]; simp, ?_, fun j h => by omega, fun c h => by simp at h, by simp, by simp⟩
  have : ∀ n, (List.replicate n false).count true = 0 := fun n => by rw [List.count_replicate]; simp
  rw [this]; simp
theorem Rs.skip {i : Nat} {met : List Bool} {out : List (List Nat)} (h : Rs W G i met out) (hi : met.getD i false = true ∨ fixB W G i = true) : Rs W G (i + 1) met out := by
  refine ⟨h.marks, h.mem, h.cnt, fun j hj hjn hf => ?_, fun c hc => ?_, h.nodup, h.rise⟩
  · by_cases e : j = i
    · subst e
      rcases hi with hi | hi
      · exact hi
      · rw [hi] at hf; cases hf
    · exact h.seen j (by omega) hjn hf
  · obtain ⟨h1, h2, h3, h4⟩ := h.ring c hc
    exact ⟨h1, h2, by omega, h4⟩
theorem Rs.add (hw : Sw W G) {i : Nat} {met : List Bool} {out : List (List Nat)} (h : Rs W G i met out) (hi : i < W.length) (hm : met.getD i false = false) (hf : fixB W G i = false) :
    Rs W G (i + 1) (ringN W G (W.length + 1) met i).2 (out ++ [(ringN W G (W.length + 1) met i).1]) := by
  have hcnt : met.count false < W.length + 1 := by have := List.count_le_length (a := false) (l := met); have := h.marks.len; omega
  obtain ⟨r1, r2, r3, r4, r5, r6, r7⟩ := ringN_facts hw i (W.length + 1) met i h.marks.len h.marks.wrong hi hf hcnt (fun x hx hx2 => .inl (h.marks.closed x hx hx2)) (fun _ => rfl) (.inl ⟨rfl, hm⟩)
  have hne : nx W G i ≠ i := fun e => by rw [(hw.nx_fix hi).2 e] at hf; cases hf
  obtain ⟨r, hr⟩ : ∃ r, (ringN W G (W.length + 1) met i).1 = i :: r := by
    rw [ringN, if_neg (by rw [hm]; decide)]
    exact ⟨_, rfl⟩
  have hr2 : 1 ≤ r.length := by
    rw [hr] at r6
    cases r with
    | nil => exact absurd r6.1 hne
    | cons y r => simp
  refine ⟨r1, fun j hj => ?_, ?_, fun j hj hjn hjf => ?_, fun c hc => ?_, ?_, ?_⟩
  · rw [r2 j hj, h.mem j hj]
    simp
  · rw [r3, h.cnt]
    simp
  · rw [r2 j hjn]
    by_cases e : j = i
    · subst e; right; rw [hr]; simp
    · left; exact h.seen j (by omega) hjn hjf
  · rcases List.mem_append.1 hc with hc | hc
    · obtain ⟨h1, h2, h3, h4⟩ := h.ring c hc
      exact ⟨h1, h2, by omega, h4⟩
    · obtain rfl := List.mem_singleton.1 hc
      rw [hr] at r6 ⊢
      refine ⟨r6, by simp; omega, by simp, fun x hx => ?_⟩
      have hx' := r4 x (by rw [hr]; exact hx)
      refine ⟨?_, hx'.1⟩
      show i ≤ x
      by_cases hlt : x < i
      · have := h.seen x hlt hx'.1 hx'.2.2
        rw [hx'.2.1] at this
        cases this
      · omega
  · rw [List.flatten_append, List.nodup_append]
    refine ⟨h.nodup, by simpa using r5, fun a ha b hb e => ?_⟩
    subst e
    have hb' : a ∈ (ringN W G (W.length + 1) met i).1 := by simpa using hb
    have := r4 a hb'
    rw [(h.mem a this.1).2 ha] at this
    exact absurd this.2.1 (by decide)
  · rw [List.map_append, List.pairwise_append]
    refine ⟨h.rise, by simp, fun a ha b hb => ?_⟩
    obtain ⟨c, hc, rfl⟩ := List.mem_map.1 ha
    rw [hr] at hb
    simp at hb
    subst hb
    exact (h.ring c hc).2.2.1
theorem outS_N (hw : Sw W G) (s : Nat) : ∀ (met : List Bool) (out : List (List Nat)) (i : Nat), i + s = W.length → Rs W G i met out → ∃ met' out', outS W G s met (out.map castL) i = out'.map castL ∧ Rs W G W.length met' out' := by
  induction s with
  | zero => intro met out i hi h; exact ⟨met, out, rfl, by rw [← hi]; exact h⟩
  | succ s ih =>
    intro met out i hi h
    rw [outS]
    by_cases hc : met.getD i false = true ∨ W.getD i 0 = G.getD i 0
    · rw [if_pos hc]
      exact ih met out (i + 1) (by omega) (h.skip (hc.imp id (fun e => decide_eq_true e)))
    · rw [if_neg hc, ringL_N]
      have hm : met.getD i false = false := by cases hq : met.getD i false with | false => rfl | true => exact absurd (.inl hq) hc
      have hf : fixB W G i = false := decide_eq_false (fun e => hc (.inr e))
      have := ih _ _ (i + 1) (by omega) (h.add hw (by omega) hm hf)
      rw [List.map_append, List.map_cons, List.map_nil] at this
      simpa using this
end
/-- The rings of two lists. -/
theorem rings_facts {W G : List Int} (h : areSwB W G = true) : ∃ met out, ringsI W G = out.map castL ∧ Rs W G W.length met out := by
  obtain ⟨met, out, h1, h2⟩ := outS_N (Sw.of h) W.length _ [] 0 (by omega) (Rs.start W G)
  exact ⟨met, out, by rw [rings_same h]; exact h1, h2⟩
/-- As many are in rings as lie wrong. -/
theorem Rs.wrongs {W G : List Int} (hw : Sw W G) {met : List Bool} {out : List (List Nat)} (h : Rs W G W.length met out) : out.flatten.length = ((List.range W.length).filter fun i => !fixB W G i).length := by
  rw [← h.cnt]
  have e : ∀ j, j < W.length → met.getD j false = !fixB W G j := fun j hj => by
    cases hm : met.getD j false with
    | true => rw [h.marks.wrong j hj hm]; rfl
    | false =>
      cases hf : fixB W G j with
      | true => rfl
      | false => rw [h.seen j hj hj hf] at hm; cases hm
  have hl := h.marks.len
  have : met = (List.range W.length).map fun j => !fixB W G j := by
    apply List.ext_getElem
    · simp [hl]
    · intro j h1 h2
      have := e j (by omega)
      rw [List.getD_eq_getElem?_getD, List.getElem?_eq_getElem h1] at this
      simpa using this
  rw [this]
  generalize List.range W.length = L
  induction L with
  | nil => rfl
  | cons x L ih =>
    cases hq : fixB W G x <;> simp [hq, ih]
end Go.Proofs.Ytgjpnamckkedfaa.Q
