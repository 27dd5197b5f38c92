/- Of whole numbers: in bounds or not (impl's within, areWithin; spec's l00In), impl's unless; slices.IndexFunc and ContainsFunc at int64. -/
import Derived.Test.YtlcnjpibfjhibaaQ0
import Derived.Shelf.Abstract
import Derived.Deep.QuietTactic
import Derived.BigQuiet
set_option linter.unusedVariables false
set_option linter.unusedSimpArgs false
namespace Go.Proofs.Ytlcnjpibfjhibaa.Q
open Go.RowKit Go.Proofs.YtlcnjpibfjhibaaW.PrintWords Go.Proofs.YtlcnjpibfjhibaaW.PrintLast Go.Proofs.YtlcnjpibfjhibaaW.PrintMore
theorem bcell {W w1 : World} (hb : Below W.heap.size W w1) : (∀ b o, b < W.heap.size → w1.cell? ⟨b, o, none⟩ = W.cell? ⟨b, o, none⟩) ∧ (∀ b o, b < W.heap.size → w1.frozen? ⟨b, o, none⟩ = W.frozen? ⟨b, o, none⟩) :=
  ⟨fun b o h => hb.cell (p := ⟨b, o, none⟩) h, fun b o h => hb.frozen (p := ⟨b, o, none⟩) h⟩
/-- Behind a call: what lay there, and one block that had been made ahead of it. -/
theorem below_call {W w1 : World} {o : Obj} (hb : Below (W.alloc o).heap.size (W.alloc o) w1) : Below W.heap.size W w1 :=
  ((Below.refl _ _).alloc (Nat.le_refl _) o).trans (hb.mono (by simp))
def inB (n lo hi : Int) : Bool := decide (lo ≤ n ∧ n ≤ hi)
theorem inB_true {n lo hi : Int} : inB n lo hi = true ↔ lo ≤ n ∧ n ≤ hi := by simp [inB]
theorem inB_false {n lo hi : Int} : inB n lo hi = false ↔ ¬ (lo ≤ n ∧ n ≤ hi) := by simp only [inB, decide_eq_false_iff_not]
theorem within_is (n lo hi : Int) (b : Bool) (h : inB n lo hi = b) (w : World) : Calls Try.prog 60 #[.int .i64 n, .int .i64 lo, .int .i64 hi] w fun e w' => e = .returned (.bool b) ∧ w = w' := by
  subst h
  by_cases h1 : lo ≤ n
  · by_cases h2 : n ≤ hi
    · go_enter Try.func60, Try.ntmps60
      go_wp2
      go_ret
      exact ⟨by simp [inB, h1, h2], rfl⟩
    · go_enter Try.func60, Try.ntmps60
      go_wp2
      go_ret
      exact ⟨by simp [inB, h2], rfl⟩
  · have h3 : inB n lo hi = false := by rw [inB_false]; omega
    go_enter Try.func60, Try.ntmps60
    go_wp2
    go_ret
    exact ⟨rfl, rfl⟩
theorem l00In_is (n lo hi : Int) (b : Bool) (h : inB n lo hi = b) (w : World) : Calls Try.prog 71 #[.int .i64 n, .int .i64 lo, .int .i64 hi] w fun e w' => e = .returned (.bool b) ∧ w = w' := by
  subst h
  by_cases h1 : lo ≤ n
  · by_cases h2 : n ≤ hi
    · go_enter Try.func71, Try.ntmps71
      go_wp2
      go_ret
      exact ⟨by simp [inB, h1, h2], rfl⟩
    · go_enter Try.func71, Try.ntmps71
      go_wp2
      go_ret
      exact ⟨by simp [inB, h2], rfl⟩
  · have h3 : inB n lo hi = false := by rw [inB_false]; omega
    go_enter Try.func71, Try.ntmps71
    go_wp2
    go_ret
    exact ⟨rfl, rfl⟩
theorem drop_cons_of {α : Type} (l : List α) (z : α) (i : Nat) (h : i < l.length) : l.drop i = l.getD i z :: l.drop (i + 1) := by
  rw [List.getD_eq_getElem?_getD, List.getElem?_eq_getElem h]
  exact List.drop_eq_getElem_cons h

theorem at_int64 {w : World} {A : Option Addr} {n : Nat} {xs : List Int} (h : Kd.C (Kd.int .i64) w A n xs) (i : Nat) (h1 : i < n) : ∃ ad, A = some ad ∧ w.cell? (ad.add i) = some (.int .i64 (xs.getD i 0)) := by
  obtain ⟨ad, e, hc⟩ := h.2.2 (by omega)
  have hl : i < xs.length := by have := h.1; omega
  obtain ⟨c, _, hr, hcell⟩ := hc i _ (List.getElem?_eq_getElem hl)
  refine ⟨ad, e, ?_⟩
  have hr' : c = [.int .i64 xs[i]] := hr
  have := hcell 0 (.int .i64 xs[i]) (by rw [hr']; rfl)
  rw [List.getD_eq_getElem?_getD, List.getElem?_eq_getElem hl]
  simpa [show (Kd.int IntKind.i64).sz = 1 from rfl] using this
/-- What is asked of a predicate on int64. -/
def PredInt (g : Nat) (lb : Array Value) (p : Int → Bool) (l : List Int) (w : World) : Prop :=
  ∀ (W : World) (x : Int), x ∈ l → Below w.heap.size w W → Calls Try.prog g (#[.int .i64 x] ++ lb) W fun e w' => e = .returned (.bool (p x)) ∧ Below W.heap.size W w'
def idxInt (p : Int → Bool) (l : List Int) : Int := match l.findIdx? p with | some i => (i : Int) | none => -1
theorem idxInt_hit (p : Int → Bool) (l : List Int) (k : Nat) (h : k < l.length) (hp : p (l.getD k 0) = true) (ha : ∀ j, j < k → p (l.getD j 0) = false) : idxInt p l = k := by
  have e : l.findIdx? p = some k := by
    rw [List.findIdx?_eq_some_iff_getElem]
    refine ⟨h, ?_, fun j hj => ?_⟩
    · rw [List.getD_eq_getElem?_getD, List.getElem?_eq_getElem h] at hp
      exact hp
    · have := ha j hj
      rw [List.getD_eq_getElem?_getD, List.getElem?_eq_getElem (by omega)] at this
      simpa using this
  unfold idxInt
  rw [e]
theorem idxInt_miss (p : Int → Bool) (l : List Int) (ha : ∀ j, j < l.length → p (l.getD j 0) = false) : idxInt p l = -1 := by
  have e : l.findIdx? p = none := by
    rw [List.findIdx?_eq_none_iff]
    intro x hx
    obtain ⟨j, hj, rfl⟩ := List.getElem_of_mem hx
    have := ha j hj
    rw [List.getD_eq_getElem?_getD, List.getElem?_eq_getElem hj] at this
    exact this
  unfold idxInt
  rw [e]
theorem idxInt_any (p : Int → Bool) (l : List Int) : decide (0 ≤ idxInt p l) = l.any p := by
  unfold idxInt
  cases h : l.findIdx? p with
  | none =>
    rw [List.findIdx?_eq_none_iff] at h
    symm
    simp only [show ¬ (0 : Int) ≤ -1 by omega, decide_false]
    rw [List.any_eq_false]
    intro x hx
    simp [h x hx]
  | some i =>
    rw [List.findIdx?_eq_some_iff_getElem] at h
    obtain ⟨h1, h2, _⟩ := h
    symm
    simp only [show (0 : Int) ≤ (i : Int) by omega, decide_true]
    rw [List.any_eq_true]
    exact ⟨_, List.getElem_mem h1, h2⟩
set_option maxHeartbeats 1000000 in
theorem indexFunc_Int (g : Nat) (lb : Array Value) (eg : ∀ args w, (callFunc g args).run Try.prog w = .ok (.enter g args) w) (p : Int → Bool) (A : Option Addr) (c : Nat) (l : List Int) (w : World) (hr : Kd.C (Kd.int .i64) w A l.length l) (hc : l.length ≤ c) (hp : PredInt g lb p l w) :
    Calls Try.prog 79 #[.slice A l.length c, .func (.func g) #[] lb] w fun e w' => e = .returned (.int .i64 (idxInt p l)) ∧ Below w.heap.size w w' := by
  have HR := Aside0.mk hr
  have HP := Aside0.mk hp
  have hbig : l.length ≤ 9223372036854775807 := hr.2.1
  clear hr hp
  go_enter Try.func79, Try.ntmps79
  go_wp2
  go_loopg [5, 8] l.length (fun gg _ s8 wr => ∃ kk : Nat, kk ≤ l.length ∧ l.length - kk ≤ gg ∧ s8 = .int .i64 kk ∧ Aside0 (Below w.heap.size w wr) ∧ Aside0 (∀ j, j < kk → p (l.getD j 0) = false))
  case atStart => exact ⟨0, Nat.zero_le _, by omega, rfl, ⟨Below.refl _ w⟩, ⟨fun j hj => absurd hj (Nat.not_lt_zero _)⟩⟩
  case round =>
    obtain ⟨kk, hkk, hg, rfl, BW, HA⟩ := hrel
    by_cases hlt : kk < l.length
    · have hltz : (kk : Int) < (l.length : Int) := by omega
      obtain ⟨ad, e, hx0⟩ := at_int64 (Kd.C_below HR.out BW.out) kk hlt
      have hcall := HP.out wr (l.getD kk 0) (by rw [List.getD_eq_getElem?_getD, List.getElem?_eq_getElem hlt]; exact List.getElem_mem hlt) BW.out
      subst e
      generalize hy : l.getD kk 0 = y at hx0 hcall
      have B := Aside0.mk hy
      clear hy
      cases hq : p y with
      | true =>
        rw [hq] at hcall
        go_wp2_with (go_at_fn g; refine hcall.mono ?_; rintro e w' ⟨rfl, hb'⟩)
        go_ret
        refine ⟨?_, BW.out.trans (hb'.mono BW.out.size)⟩
        rw [idxInt_hit p l kk hlt (by rw [B.out]; exact hq) HA.out]
        rfl
      | false =>
        rw [hq] at hcall
        go_wp2_with (go_at_fn g; refine hcall.mono ?_; rintro e w' ⟨rfl, hb'⟩)
        go_roundg (l.length - (kk + 1))
        case measure => omega
        case rel =>
          refine ⟨kk + 1, by omega, by omega, by go_num, ⟨BW.out.trans (hb'.mono BW.out.size)⟩, ⟨fun j hj => ?_⟩⟩
          by_cases e : j = kk
          · subst e
            rw [B.out]; exact hq
          · exact HA.out j (by omega)
    · have hltz : ¬ (kk : Int) < (l.length : Int) := by omega
      have hk : kk = l.length := by omega
      subst hk
      go_wp2
      go_ret
      exact ⟨by rw [idxInt_miss p l HA.out]; rfl, BW.out⟩
theorem containsFunc_Int (g : Nat) (lb : Array Value) (eg : ∀ args w, (callFunc g args).run Try.prog w = .ok (.enter g args) w) (p : Int → Bool) (A : Option Addr) (c : Nat) (l : List Int) (w : World) (hr : Kd.C (Kd.int .i64) w A l.length l) (hc : l.length ≤ c) (hp : PredInt g lb p l w) :
    Calls Try.prog 69 #[.slice A l.length c, .func (.func g) #[] lb] w fun e w' => e = .returned (.bool (l.any p)) ∧ Below w.heap.size w w' := by
  rw [← idxInt_any]
  have HP := Aside0.mk hp
  have HR := Aside0.mk hr
  clear hp hr
  go_enter Try.func69, Try.ntmps69
  go_wp2_with (go_at_call 79; refine (indexFunc_Int g lb eg p A c l _ HR.out hc HP.out).mono ?_; rintro e w' ⟨rfl, hb'⟩)
  go_ret
  exact ⟨rfl, hb'⟩
theorem within_pred (B1 B2 : Nat) (lo hi : Int) (l : List Int) (w : World) (h1 : B1 < w.heap.size) (h2 : B2 < w.heap.size) (c1 : w.cell? ⟨B1, 0, none⟩ = some (.int .i64 lo)) (c2 : w.cell? ⟨B2, 0, none⟩ = some (.int .i64 hi)) :
    PredInt 78 #[.pointer (some ⟨B1, 0, none⟩), .pointer (some ⟨B2, 0, none⟩)] (fun n => !inB n lo hi) l w := by
  intro W x hx hb
  have d1 := (hb.cell (p := ⟨B1, 0, none⟩) h1).trans c1
  have d2 := (hb.cell (p := ⟨B2, 0, none⟩) h2).trans c2
  clear c1 c2 hx hb
  simp only [List.append_toArray, List.cons_append, List.nil_append]
  go_enter Try.func78, Try.ntmps78
  go_wp2_with (first | (go_at_call 60; refine (within_is _ _ _ _ rfl _).mono ?_; rintro e w' ⟨rfl, rfl⟩) | go_quiet ((go_at_call 60; exact Calls.quiet_of_same ((within_is _ _ _ _ rfl _).mono fun e w' h => ⟨h.1, h.2.symm⟩))))
  go_ret
  exact ⟨rfl, Below.refl _ _⟩
def allIn (l : List Int) (lo hi : Int) : Bool := l.all fun n => inB n lo hi
theorem allIn_not (l : List Int) (lo hi : Int) : (!l.any fun n => !inB n lo hi) = allIn l lo hi := by
  unfold allIn
  induction l with
  | nil => rfl
  | cons x l ih => rw [List.any_cons, List.all_cons, ← ih]; cases inB x lo hi <;> simp
theorem areWithin_is (A : Option Addr) (c : Nat) (l : List Int) (lo hi : Int) (w : World) (hr : Kd.C (Kd.int .i64) w A l.length l) (hc : l.length ≤ c) :
    Calls Try.prog 62 #[.slice A l.length c, .int .i64 lo, .int .i64 hi] w fun e w' => e = .returned (.bool (allIn l lo hi)) ∧ Below w.heap.size w w' := by
  have HR := Aside0.mk hr
  clear hr
  have eg := enters_of Try.func78 (by kernel_rfl) rfl
  go_enter Try.func62, Try.ntmps62
  go_wp2_with (go_at_call 69; refine (containsFunc_Int 78 _ eg (fun n => !inB n lo hi) A c l _ (Kd.C_alloc (Kd.C_alloc HR.out _) _) hc (within_pred w.heap.size (w.heap.size + 1) lo hi l _ (by simp; omega) (by simp) (by go_simp) (by go_simp))).mono ?_; rintro e w1 ⟨rfl, hb⟩)
  go_ret
  refine ⟨by rw [← allIn_not]; rfl, ?_⟩
  exact (((Below.refl _ _).alloc (Nat.le_refl _) _).alloc (by simp) _).trans (hb.mono (by simp; omega))
end Go.Proofs.Ytlcnjpibfjhibaa.Q
