/- Nets, over lists alone: which are in range, which are valid. -/
import Derived.Test.YticfecncdpdanaaQ0
import Derived.Shelf.Abstract
import Derived.Deep.QuietTactic
import Derived.BigQuiet
set_option linter.unusedVariables false
namespace Go.Proofs.Yticfecncdpdanaa.Q
open Go.RowKit Go.Proofs.YticfecncdpdanaaW.PrintWords
theorem bcell {W w1 : World} (hb : Below W.heap.size W w1) : (∀ b o, b < W.heap.size → w1.cell? ⟨b, o, none⟩ = W.cell? ⟨b, o, none⟩) ∧ (∀ b o, b < W.heap.size → w1.frozen? ⟨b, o, none⟩ = W.frozen? ⟨b, o, none⟩) :=
  ⟨fun b o h => hb.cell (p := ⟨b, o, none⟩) h, fun b o h => hb.frozen (p := ⟨b, o, none⟩) h⟩
/-- Behind a call: what lay there, and one block that had been made ahead of it. -/
theorem below_call {W w1 : World} {o : Obj} (hb : Below (W.alloc o).heap.size (W.alloc o) w1) : Below W.heap.size W w1 :=
  ((Below.refl _ _).alloc (Nat.le_refl _) o).trans (hb.mono (by simp))
def inB (n lo hi : Int) : Bool := decide (lo ≤ n ∧ n ≤ hi)
theorem inB_true {n lo hi : Int} : inB n lo hi = true ↔ lo ≤ n ∧ n ≤ hi := by simp [inB]
theorem inB_false {n lo hi : Int} : inB n lo hi = false ↔ ¬ (lo ≤ n ∧ n ≤ hi) := by simp only [inB, decide_eq_false_iff_not]
/-- A lane's fields lie in their kinds. -/
def okLane (x : S44) : Bool := decide (-128 ≤ x.f0 ∧ x.f0 ≤ 127 ∧ -128 ≤ x.f1 ∧ x.f1 ≤ 127 ∧ -32768 ≤ x.f2 ∧ x.f2 ≤ 32767 ∧ -32768 ≤ x.f3 ∧ x.f3 ≤ 32767)
def okNet (s t : Int) (l : List S44) : Bool := decide (-128 ≤ s ∧ s ≤ 127 ∧ -32768 ≤ t ∧ t ≤ 32767) && l.all okLane
/-- What makes a lane bad, in a net of s stations. -/
def laneBad (s : Int) (x : S44) : Bool := !inB x.f0 0 (s - 1) || (!inB x.f1 0 (s - 1) || (x.f0 == x.f1 || (!inB x.f2 1 x.f3 || decide (40 < x.f3))))
def netB (s t : Int) (l : List S44) : Bool := inB s 1 8 && (inB t 0 40 && (decide (l.length ≤ 20) && !l.any (laneBad s)))
theorem okNet_iff {s t : Int} {l : List S44} : okNet s t l = true ↔ (-128 ≤ s ∧ s ≤ 127 ∧ -32768 ≤ t ∧ t ≤ 32767) ∧ ∀ x ∈ l, okLane x = true := by
  simp [okNet]
theorem okLane_iff {x : S44} : okLane x = true ↔ -128 ≤ x.f0 ∧ x.f0 ≤ 127 ∧ -128 ≤ x.f1 ∧ x.f1 ≤ 127 ∧ -32768 ≤ x.f2 ∧ x.f2 ≤ 32767 ∧ -32768 ≤ x.f3 ∧ x.f3 ≤ 32767 := by
  simp [okLane]
end Go.Proofs.Yticfecncdpdanaa.Q
/- slices.IndexFunc and slices.ContainsFunc at i.Lane: whatever the predicate, if it leaves what lay there: the first index at which it holds; whether there is one. For every slice that can be read. -/
set_option linter.unusedVariables false
set_option linter.unusedSimpArgs false
namespace Go.Proofs.Yticfecncdpdanaa.Q
open Go.RowKit Go.Proofs.YticfecncdpdanaaW.PrintWords Go.Proofs.YticfecncdpdanaaW.PrintLast Go.Proofs.YticfecncdpdanaaW.PrintMore

/-- What is asked of a predicate on i.Lane. -/
def PredLane (g : Nat) (lb : Array Value) (p : S44 → Bool) (l : List S44) (w : World) : Prop :=
  ∀ (W : World) (x : S44), x ∈ l → Below w.heap.size w W → Calls Try.prog g (#[.agg #[.int .i8 x.f0, .int .i8 x.f1, .int .i16 x.f2, .int .i16 x.f3]] ++ lb) W fun e w' => e = .returned (.bool (p x)) ∧ Below W.heap.size W w'
def idxLane (p : S44 → Bool) (l : List S44) : Int := match l.findIdx? p with | some i => (i : Int) | none => -1
theorem idxLane_hit (p : S44 → Bool) (l : List S44) (k : Nat) (h : k < l.length) (hp : p (l.getD k z44) = true) (ha : ∀ j, j < k → p (l.getD j z44) = false) : idxLane p l = k := by
  have e : l.findIdx? p = some k := by
    rw [List.findIdx?_eq_some_iff_getElem]
    refine ⟨h, ?_, fun j hj => ?_⟩
    · rw [List.getD_eq_getElem?_getD, List.getElem?_eq_getElem h] at hp
      exact hp
    · have := ha j hj
      rw [List.getD_eq_getElem?_getD, List.getElem?_eq_getElem (by omega)] at this
      simpa using this
  unfold idxLane
  rw [e]
theorem idxLane_miss (p : S44 → Bool) (l : List S44) (ha : ∀ j, j < l.length → p (l.getD j z44) = false) : idxLane p l = -1 := by
  have e : l.findIdx? p = none := by
    rw [List.findIdx?_eq_none_iff]
    intro x hx
    obtain ⟨j, hj, rfl⟩ := List.getElem_of_mem hx
    have := ha j hj
    rw [List.getD_eq_getElem?_getD, List.getElem?_eq_getElem hj] at this
    exact this
  unfold idxLane
  rw [e]
theorem idxLane_any (p : S44 → Bool) (l : List S44) : decide (0 ≤ idxLane p l) = l.any p := by
  unfold idxLane
  cases h : l.findIdx? p with
  | none =>
    rw [List.findIdx?_eq_none_iff] at h
    symm
    simp only [show ¬ (0 : Int) ≤ -1 by omega, decide_false]
    rw [List.any_eq_false]
    intro x hx
    simp [h x hx]
  | some i =>
    rw [List.findIdx?_eq_some_iff_getElem] at h
    obtain ⟨h1, h2, _⟩ := h
    symm
    simp only [show (0 : Int) ≤ (i : Int) by omega, decide_true]
    rw [List.any_eq_true]
    exact ⟨_, List.getElem_mem h1, h2⟩
set_option maxHeartbeats 1000000 in
theorem indexFunc_Lane (g : Nat) (lb : Array Value) (eg : ∀ args w, (callFunc g args).run Try.prog w = .ok (.enter g args) w) (p : S44 → Bool) (A : Option Addr) (c : Nat) (l : List S44) (w : World) (hr : Kd.C k44 w A l.length l) (hc : l.length ≤ c) (hp : PredLane g lb p l w) :
    Calls Try.prog 96 #[.slice A l.length c, .func (.func g) #[] lb] w fun e w' => e = .returned (.int .i64 (idxLane p l)) ∧ Below w.heap.size w w' := by
  have HR := Aside0.mk hr
  have HP := Aside0.mk hp
  have hbig : l.length ≤ 9223372036854775807 := hr.2.1
  clear hr hp
  go_enter Try.func96, Try.ntmps96
  go_wp2
  go_loopg [5, 8] l.length (fun gg _ s8 wr => ∃ kk : Nat, kk ≤ l.length ∧ l.length - kk ≤ gg ∧ s8 = .int .i64 kk ∧ Aside0 (Below w.heap.size w wr) ∧ Aside0 (∀ j, j < kk → p (l.getD j z44) = false))
  case atStart => exact ⟨0, Nat.zero_le _, by omega, rfl, ⟨Below.refl _ w⟩, ⟨fun j hj => absurd hj (Nat.not_lt_zero _)⟩⟩
  case round =>
    obtain ⟨kk, hkk, hg, rfl, BW, HA⟩ := hrel
    by_cases hlt : kk < l.length
    · have hltz : (kk : Int) < (l.length : Int) := by omega
      obtain ⟨ad, e, hx0, hx1, hx2, hx3⟩ := at_T44 (Kd.C_below HR.out BW.out) (kk : Int) (by omega) hltz
      have hcall := HP.out wr (l.getD kk z44) (by rw [List.getD_eq_getElem?_getD, List.getElem?_eq_getElem hlt]; exact List.getElem_mem hlt) BW.out
      simp only [rd_T44, Int.toNat_natCast] at hx0 hx1 hx2 hx3
      subst e
      generalize hy : l.getD kk z44 = y at hx0 hx1 hx2 hx3 hcall
      have B := Aside0.mk hy
      clear hy
      cases hq : p y with
      | true =>
        rw [hq] at hcall
        go_wp2_with (go_at_fn g; refine hcall.mono ?_; rintro e w' ⟨rfl, hb'⟩)
        go_ret
        refine ⟨?_, BW.out.trans (hb'.mono BW.out.size)⟩
        rw [idxLane_hit p l kk hlt (by rw [B.out]; exact hq) HA.out]
        rfl
      | false =>
        rw [hq] at hcall
        go_wp2_with (go_at_fn g; refine hcall.mono ?_; rintro e w' ⟨rfl, hb'⟩)
        go_roundg (l.length - (kk + 1))
        case measure => omega
        case rel =>
          refine ⟨kk + 1, by omega, by omega, by go_num, ⟨BW.out.trans (hb'.mono BW.out.size)⟩, ⟨fun j hj => ?_⟩⟩
          by_cases e : j = kk
          · subst e
            rw [B.out]; exact hq
          · exact HA.out j (by omega)
    · have hltz : ¬ (kk : Int) < (l.length : Int) := by omega
      have hk : kk = l.length := by omega
      subst hk
      go_wp2
      go_ret
      exact ⟨by rw [idxLane_miss p l HA.out]; rfl, BW.out⟩
theorem containsFunc_Lane (g : Nat) (lb : Array Value) (eg : ∀ args w, (callFunc g args).run Try.prog w = .ok (.enter g args) w) (p : S44 → Bool) (A : Option Addr) (c : Nat) (l : List S44) (w : World) (hr : Kd.C k44 w A l.length l) (hc : l.length ≤ c) (hp : PredLane g lb p l w) :
    Calls Try.prog 81 #[.slice A l.length c, .func (.func g) #[] lb] w fun e w' => e = .returned (.bool (l.any p)) ∧ Below w.heap.size w w' := by
  rw [← idxLane_any]
  have HP := Aside0.mk hp
  have HR := Aside0.mk hr
  clear hp hr
  go_enter Try.func81, Try.ntmps81
  go_wp2_with (go_at_call 96; refine (indexFunc_Lane g lb eg p A c l _ HR.out hc HP.out).mono ?_; rintro e w' ⟨rfl, hb'⟩)
  go_ret
  exact ⟨rfl, hb'⟩
end Go.Proofs.Yticfecncdpdanaa.Q
/- slices.IndexFunc and slices.ContainsFunc at int64: whatever the predicate, if it leaves what lay there: the first index at which it holds; whether there is one. For every slice that can be read. -/
set_option linter.unusedVariables false
set_option linter.unusedSimpArgs false
namespace Go.Proofs.Yticfecncdpdanaa.Q
open Go.RowKit Go.Proofs.YticfecncdpdanaaW.PrintWords Go.Proofs.YticfecncdpdanaaW.PrintLast Go.Proofs.YticfecncdpdanaaW.PrintMore

theorem at_int64 {w : World} {A : Option Addr} {n : Nat} {xs : List Int} (h : Kd.C (Kd.int .i64) w A n xs) (i : Nat) (h1 : i < n) : ∃ ad, A = some ad ∧ w.cell? (ad.add i) = some (.int .i64 (xs.getD i 0)) := by
  obtain ⟨ad, e, hc⟩ := h.2.2 (by omega)
  have hl : i < xs.length := by have := h.1; omega
  obtain ⟨c, _, hr, hcell⟩ := hc i _ (List.getElem?_eq_getElem hl)
  refine ⟨ad, e, ?_⟩
  have hr' : c = [.int .i64 xs[i]] := hr
  have := hcell 0 (.int .i64 xs[i]) (by rw [hr']; rfl)
  rw [List.getD_eq_getElem?_getD, List.getElem?_eq_getElem hl]
  simpa [show (Kd.int IntKind.i64).sz = 1 from rfl] using this
/-- What is asked of a predicate on int64. -/
def PredInt (g : Nat) (lb : Array Value) (p : Int → Bool) (l : List Int) (w : World) : Prop :=
  ∀ (W : World) (x : Int), x ∈ l → Below w.heap.size w W → Calls Try.prog g (#[.int .i64 x] ++ lb) W fun e w' => e = .returned (.bool (p x)) ∧ Below W.heap.size W w'
def idxInt (p : Int → Bool) (l : List Int) : Int := match l.findIdx? p with | some i => (i : Int) | none => -1
theorem idxInt_hit (p : Int → Bool) (l : List Int) (k : Nat) (h : k < l.length) (hp : p (l.getD k 0) = true) (ha : ∀ j, j < k → p (l.getD j 0) = false) : idxInt p l = k := by
  have e : l.findIdx? p = some k := by
    rw [List.findIdx?_eq_some_iff_getElem]
    refine ⟨h, ?_, fun j hj => ?_⟩
    · rw [List.getD_eq_getElem?_getD, List.getElem?_eq_getElem h] at hp
      exact hp
    · have := ha j hj
      rw [List.getD_eq_getElem?_getD, List.getElem?_eq_getElem (by omega)] at this
      simpa using this
  unfold idxInt
  rw [e]
theorem idxInt_miss (p : Int → Bool) (l : List Int) (ha : ∀ j, j < l.length → p (l.getD j 0) = false) : idxInt p l = -1 := by
  have e : l.findIdx? p = none := by
    rw [List.findIdx?_eq_none_iff]
    intro x hx
    obtain ⟨j, hj, rfl⟩ := List.getElem_of_mem hx
    have := ha j hj
    rw [List.getD_eq_getElem?_getD, List.getElem?_eq_getElem hj] at this
    exact this
  unfold idxInt
  rw [e]
theorem idxInt_any (p : Int → Bool) (l : List Int) : decide (0 ≤ idxInt p l) = l.any p := by
  unfold idxInt
  cases h : l.findIdx? p with
  | none =>
    rw [List.findIdx?_eq_none_iff] at h
    symm
    simp only [show ¬ (0 : Int) ≤ -1 by omega, decide_false]
    rw [List.any_eq_false]
    intro x hx
    simp [h x hx]
  | some i =>
    rw [List.findIdx?_eq_some_iff_getElem] at h
    obtain ⟨h1, h2, _⟩ := h
    symm
    simp only [show (0 : Int) ≤ (i : Int) by omega, decide_true]
    rw [List.any_eq_true]
    exact ⟨_, List.getElem_mem h1, h2⟩
set_option maxHeartbeats 1000000 in
theorem indexFunc_Int (g : Nat) (lb : Array Value) (eg : ∀ args w, (callFunc g args).run Try.prog w = .ok (.enter g args) w) (p : Int → Bool) (A : Option Addr) (c : Nat) (l : List Int) (w : World) (hr : Kd.C (Kd.int .i64) w A l.length l) (hc : l.length ≤ c) (hp : PredInt g lb p l w) :
    Calls Try.prog 83 #[.slice A l.length c, .func (.func g) #[] lb] w fun e w' => e = .returned (.int .i64 (idxInt p l)) ∧ Below w.heap.size w w' := by
  have HR := Aside0.mk hr
  have HP := Aside0.mk hp
  have hbig : l.length ≤ 9223372036854775807 := hr.2.1
  clear hr hp
  go_enter Try.func83, Try.ntmps83
  go_wp2
  go_loopg [5, 8] l.length (fun gg _ s8 wr => ∃ kk : Nat, kk ≤ l.length ∧ l.length - kk ≤ gg ∧ s8 = .int .i64 kk ∧ Aside0 (Below w.heap.size w wr) ∧ Aside0 (∀ j, j < kk → p (l.getD j 0) = false))
  case atStart => exact ⟨0, Nat.zero_le _, by omega, rfl, ⟨Below.refl _ w⟩, ⟨fun j hj => absurd hj (Nat.not_lt_zero _)⟩⟩
  case round =>
    obtain ⟨kk, hkk, hg, rfl, BW, HA⟩ := hrel
    by_cases hlt : kk < l.length
    · have hltz : (kk : Int) < (l.length : Int) := by omega
      obtain ⟨ad, e, hx0⟩ := at_int64 (Kd.C_below HR.out BW.out) kk hlt
      have hcall := HP.out wr (l.getD kk 0) (by rw [List.getD_eq_getElem?_getD, List.getElem?_eq_getElem hlt]; exact List.getElem_mem hlt) BW.out
      subst e
      generalize hy : l.getD kk 0 = y at hx0 hcall
      have B := Aside0.mk hy
      clear hy
      cases hq : p y with
      | true =>
        rw [hq] at hcall
        go_wp2_with (go_at_fn g; refine hcall.mono ?_; rintro e w' ⟨rfl, hb'⟩)
        go_ret
        refine ⟨?_, BW.out.trans (hb'.mono BW.out.size)⟩
        rw [idxInt_hit p l kk hlt (by rw [B.out]; exact hq) HA.out]
        rfl
      | false =>
        rw [hq] at hcall
        go_wp2_with (go_at_fn g; refine hcall.mono ?_; rintro e w' ⟨rfl, hb'⟩)
        go_roundg (l.length - (kk + 1))
        case measure => omega
        case rel =>
          refine ⟨kk + 1, by omega, by omega, by go_num, ⟨BW.out.trans (hb'.mono BW.out.size)⟩, ⟨fun j hj => ?_⟩⟩
          by_cases e : j = kk
          · subst e
            rw [B.out]; exact hq
          · exact HA.out j (by omega)
    · have hltz : ¬ (kk : Int) < (l.length : Int) := by omega
      have hk : kk = l.length := by omega
      subst hk
      go_wp2
      go_ret
      exact ⟨by rw [idxInt_miss p l HA.out]; rfl, BW.out⟩
theorem containsFunc_Int (g : Nat) (lb : Array Value) (eg : ∀ args w, (callFunc g args).run Try.prog w = .ok (.enter g args) w) (p : Int → Bool) (A : Option Addr) (c : Nat) (l : List Int) (w : World) (hr : Kd.C (Kd.int .i64) w A l.length l) (hc : l.length ≤ c) (hp : PredInt g lb p l w) :
    Calls Try.prog 64 #[.slice A l.length c, .func (.func g) #[] lb] w fun e w' => e = .returned (.bool (l.any p)) ∧ Below w.heap.size w w' := by
  rw [← idxInt_any]
  have HP := Aside0.mk hp
  have HR := Aside0.mk hr
  clear hp hr
  go_enter Try.func64, Try.ntmps64
  go_wp2_with (go_at_call 83; refine (indexFunc_Int g lb eg p A c l _ HR.out hc HP.out).mono ?_; rintro e w' ⟨rfl, hb'⟩)
  go_ret
  exact ⟨rfl, hb'⟩
end Go.Proofs.Yticfecncdpdanaa.Q
/- slices.IndexFunc and slices.ContainsFunc at i.Scan: whatever the predicate, if it leaves what lay there: the first index at which it holds; whether there is one. For every slice that can be read. -/
set_option linter.unusedVariables false
set_option linter.unusedSimpArgs false
namespace Go.Proofs.Yticfecncdpdanaa.Q
open Go.RowKit Go.Proofs.YticfecncdpdanaaW.PrintWords Go.Proofs.YticfecncdpdanaaW.PrintLast Go.Proofs.YticfecncdpdanaaW.PrintMore

/-- What is asked of a predicate on i.Scan. -/
def PredScan (g : Nat) (lb : Array Value) (p : S31 → Bool) (l : List S31) (w : World) : Prop :=
  ∀ (W : World) (x : S31), x ∈ l → Below w.heap.size w W → Calls Try.prog g (#[.agg #[.int .i8 x.f0, .int .i16 x.f1]] ++ lb) W fun e w' => e = .returned (.bool (p x)) ∧ Below W.heap.size W w'
def idxScan (p : S31 → Bool) (l : List S31) : Int := match l.findIdx? p with | some i => (i : Int) | none => -1
theorem idxScan_hit (p : S31 → Bool) (l : List S31) (k : Nat) (h : k < l.length) (hp : p (l.getD k z31) = true) (ha : ∀ j, j < k → p (l.getD j z31) = false) : idxScan p l = k := by
  have e : l.findIdx? p = some k := by
    rw [List.findIdx?_eq_some_iff_getElem]
    refine ⟨h, ?_, fun j hj => ?_⟩
    · rw [List.getD_eq_getElem?_getD, List.getElem?_eq_getElem h] at hp
      exact hp
    · have := ha j hj
      rw [List.getD_eq_getElem?_getD, List.getElem?_eq_getElem (by omega)] at this
      simpa using this
  unfold idxScan
  rw [e]
theorem idxScan_miss (p : S31 → Bool) (l : List S31) (ha : ∀ j, j < l.length → p (l.getD j z31) = false) : idxScan p l = -1 := by
  have e : l.findIdx? p = none := by
    rw [List.findIdx?_eq_none_iff]
    intro x hx
    obtain ⟨j, hj, rfl⟩ := List.getElem_of_mem hx
    have := ha j hj
    rw [List.getD_eq_getElem?_getD, List.getElem?_eq_getElem hj] at this
    exact this
  unfold idxScan
  rw [e]
theorem idxScan_any (p : S31 → Bool) (l : List S31) : decide (0 ≤ idxScan p l) = l.any p := by
  unfold idxScan
  cases h : l.findIdx? p with
  | none =>
    rw [List.findIdx?_eq_none_iff] at h
    symm
    simp only [show ¬ (0 : Int) ≤ -1 by omega, decide_false]
    rw [List.any_eq_false]
    intro x hx
    simp [h x hx]
  | some i =>
    rw [List.findIdx?_eq_some_iff_getElem] at h
    obtain ⟨h1, h2, _⟩ := h
    symm
    simp only [show (0 : Int) ≤ (i : Int) by omega, decide_true]
    rw [List.any_eq_true]
    exact ⟨_, List.getElem_mem h1, h2⟩
set_option maxHeartbeats 1000000 in
theorem indexFunc_Scan (g : Nat) (lb : Array Value) (eg : ∀ args w, (callFunc g args).run Try.prog w = .ok (.enter g args) w) (p : S31 → Bool) (A : Option Addr) (c : Nat) (l : List S31) (w : World) (hr : Kd.C k31 w A l.length l) (hc : l.length ≤ c) (hp : PredScan g lb p l w) :
    Calls Try.prog 78 #[.slice A l.length c, .func (.func g) #[] lb] w fun e w' => e = .returned (.int .i64 (idxScan p l)) ∧ Below w.heap.size w w' := by
  have HR := Aside0.mk hr
  have HP := Aside0.mk hp
  have hbig : l.length ≤ 9223372036854775807 := hr.2.1
  clear hr hp
  go_enter Try.func78, Try.ntmps78
  go_wp2
  go_loopg [5, 8] l.length (fun gg _ s8 wr => ∃ kk : Nat, kk ≤ l.length ∧ l.length - kk ≤ gg ∧ s8 = .int .i64 kk ∧ Aside0 (Below w.heap.size w wr) ∧ Aside0 (∀ j, j < kk → p (l.getD j z31) = false))
  case atStart => exact ⟨0, Nat.zero_le _, by omega, rfl, ⟨Below.refl _ w⟩, ⟨fun j hj => absurd hj (Nat.not_lt_zero _)⟩⟩
  case round =>
    obtain ⟨kk, hkk, hg, rfl, BW, HA⟩ := hrel
    by_cases hlt : kk < l.length
    · have hltz : (kk : Int) < (l.length : Int) := by omega
      obtain ⟨ad, e, hx0, hx1⟩ := at_T31 (Kd.C_below HR.out BW.out) (kk : Int) (by omega) hltz
      have hcall := HP.out wr (l.getD kk z31) (by rw [List.getD_eq_getElem?_getD, List.getElem?_eq_getElem hlt]; exact List.getElem_mem hlt) BW.out
      simp only [rd_T31, Int.toNat_natCast] at hx0 hx1
      subst e
      generalize hy : l.getD kk z31 = y at hx0 hx1 hcall
      have B := Aside0.mk hy
      clear hy
      cases hq : p y with
      | true =>
        rw [hq] at hcall
        go_wp2_with (go_at_fn g; refine hcall.mono ?_; rintro e w' ⟨rfl, hb'⟩)
        go_ret
        refine ⟨?_, BW.out.trans (hb'.mono BW.out.size)⟩
        rw [idxScan_hit p l kk hlt (by rw [B.out]; exact hq) HA.out]
        rfl
      | false =>
        rw [hq] at hcall
        go_wp2_with (go_at_fn g; refine hcall.mono ?_; rintro e w' ⟨rfl, hb'⟩)
        go_roundg (l.length - (kk + 1))
        case measure => omega
        case rel =>
          refine ⟨kk + 1, by omega, by omega, by go_num, ⟨BW.out.trans (hb'.mono BW.out.size)⟩, ⟨fun j hj => ?_⟩⟩
          by_cases e : j = kk
          · subst e
            rw [B.out]; exact hq
          · exact HA.out j (by omega)
    · have hltz : ¬ (kk : Int) < (l.length : Int) := by omega
      have hk : kk = l.length := by omega
      subst hk
      go_wp2
      go_ret
      exact ⟨by rw [idxScan_miss p l HA.out]; rfl, BW.out⟩
theorem containsFunc_Scan (g : Nat) (lb : Array Value) (eg : ∀ args w, (callFunc g args).run Try.prog w = .ok (.enter g args) w) (p : S31 → Bool) (A : Option Addr) (c : Nat) (l : List S31) (w : World) (hr : Kd.C k31 w A l.length l) (hc : l.length ≤ c) (hp : PredScan g lb p l w) :
    Calls Try.prog 58 #[.slice A l.length c, .func (.func g) #[] lb] w fun e w' => e = .returned (.bool (l.any p)) ∧ Below w.heap.size w w' := by
  rw [← idxScan_any]
  have HP := Aside0.mk hp
  have HR := Aside0.mk hr
  clear hp hr
  go_enter Try.func58, Try.ntmps58
  go_wp2_with (go_at_call 78; refine (indexFunc_Scan g lb eg p A c l _ HR.out hc HP.out).mono ?_; rintro e w' ⟨rfl, hb'⟩)
  go_ret
  exact ⟨rfl, hb'⟩
end Go.Proofs.Yticfecncdpdanaa.Q
/- impl.ValidNet and spec.ValidNet: both tell netB, for nets whose fields lie in their kinds. -/
set_option linter.unusedVariables false
set_option linter.unusedSimpArgs false
namespace Go.Proofs.Yticfecncdpdanaa.Q
open Go.RowKit Go.Proofs.YticfecncdpdanaaW.PrintWords Go.Proofs.YticfecncdpdanaaW.PrintLast Go.Proofs.YticfecncdpdanaaW.PrintMore

theorem within_is (n lo hi : Int) (b : Bool) (h : inB n lo hi = b) (w : World) : Calls Try.prog 80 #[.int .i64 n, .int .i64 lo, .int .i64 hi] w fun e w' => e = .returned (.bool b) ∧ w = w' := by
  subst h
  by_cases h1 : lo ≤ n
  · by_cases h2 : n ≤ hi
    · go_enter Try.func80, Try.ntmps80
      go_wp2
      go_ret
      exact ⟨by simp [inB, h1, h2], rfl⟩
    · go_enter Try.func80, Try.ntmps80
      go_wp2
      go_ret
      exact ⟨by simp [inB, h2], rfl⟩
  · have h3 : inB n lo hi = false := by rw [inB_false]; omega
    go_enter Try.func80, Try.ntmps80
    go_wp2
    go_ret
    exact ⟨rfl, rfl⟩
theorem isStation_is (s t : Int) (v : Value) (x : Int) (b : Bool) (hs0 : -128 ≤ s) (hs1 : s ≤ 127) (h : inB x 0 (s - 1) = b) (w : World) :
    Calls Try.prog 66 #[.agg #[.int .i8 s, .int .i16 t, v], .int .i64 x] w fun e w' => e = .returned (.bool b) ∧ Below w.heap.size w w' := by
  have H := Aside0.mk h
  clear h
  go_enter Try.func66, Try.ntmps66
  go_wp2_with (go_at_call 80; refine (within_is _ _ _ _ H.out _).mono ?_; rintro e w' ⟨rfl, rfl⟩)
  go_ret
  exact ⟨rfl, (Below.refl _ _).alloc (Nat.le_refl _) _⟩
/-- The literal of ValidNet, in whatever world holds the net in its block. -/
theorem lane_pred (B : Nat) (s t : Int) (v : Value) (l : List S44) (w : World) (hB : B < w.heap.size) (c0 : w.cell? ⟨B, 0, none⟩ = some (.int .i8 s)) (c1 : w.cell? ⟨B, 1, none⟩ = some (.int .i16 t)) (c2 : w.cell? ⟨B, 2, none⟩ = some v)
    (hs0 : -128 ≤ s) (hs1 : s ≤ 127) (hl : ∀ x ∈ l, okLane x = true) : PredLane 82 #[.pointer (some ⟨B, 0, none⟩)] (laneBad s) l w := by
  intro W x hx hb
  have d0 := (hb.cell (p := ⟨B, 0, none⟩) hB).trans c0
  have d1 := (hb.cell (p := ⟨B, 1, none⟩) hB).trans c1
  have d2 := (hb.cell (p := ⟨B, 2, none⟩) hB).trans c2
  obtain ⟨a1, a2, a3, a4, a5, a6, a7, a8⟩ := okLane_iff.1 (hl x hx)
  have hBW : B < W.heap.size := Nat.lt_of_lt_of_le hB hb.size
  clear c0 c1 c2 hl hx hb
  obtain ⟨f, g, m, n⟩ := x
  simp only at a1 a2 a3 a4 a5 a6 a7 a8 ⊢
  simp only [List.append_toArray, List.cons_append, List.nil_append]
  have E : Aside0 (laneBad s ⟨f, g, m, n⟩ = (!inB f 0 (s - 1) || (!inB g 0 (s - 1) || (f == g || (!inB m 1 n || decide (40 < n)))))) := ⟨rfl⟩
  go_enter Try.func82, Try.ntmps82
  go_wp2_with fail
  cases h1 : inB f 0 (s - 1) with
  | false =>
    refine (isStation_is _ _ _ _ _ hs0 hs1 h1 _).mono ?_
    rintro e w1 ⟨rfl, hb⟩
    have H1 := Aside0.mk h1
    clear h1
    go_wp2
    go_ret
    exact ⟨by rw [E.out, H1.out]; rfl, below_call hb⟩
  | true =>
    refine (isStation_is _ _ _ _ _ hs0 hs1 h1 _).mono ?_
    rintro e w1 ⟨rfl, hb⟩
    have H1 := Aside0.mk h1
    clear h1
    obtain ⟨hc, hf⟩ := bcell hb
    go_wp2_with fail
    cases h2 : inB g 0 (s - 1) with
    | false =>
      refine (isStation_is _ _ _ _ _ hs0 hs1 h2 _).mono ?_
      rintro e w2 ⟨rfl, hb2⟩
      have H2 := Aside0.mk h2
      clear h2
      go_wp2
      go_ret
      exact ⟨by rw [E.out, H1.out, H2.out]; rfl, below_call (hb.trans (hb2.mono hb.size))⟩
    | true =>
      refine (isStation_is _ _ _ _ _ hs0 hs1 h2 _).mono ?_
      rintro e w2 ⟨rfl, hb2⟩
      have H2 := Aside0.mk h2
      clear h2
      have hb3 := Aside0.mk (below_call (hb.trans (hb2.mono hb.size)))
      have hz : W.heap.size < w1.heap.size := by have := hb.size; simp at this; omega
      obtain ⟨hc2, hf2⟩ := bcell hb2
      cases h3 : (f == g) with
      | true =>
        go_wp2
        go_ret
        exact ⟨by rw [E.out, H1.out, H2.out, h3]; rfl, hb3.out⟩
      | false =>
        go_wp2_with fail
        cases h4 : inB m 1 n with
        | false =>
          refine (within_is _ _ _ _ h4 _).mono ?_
          rintro e w' ⟨rfl, rfl⟩
          have H4 := Aside0.mk h4
          clear h4
          go_wp2
          go_ret
          exact ⟨by rw [E.out, H1.out, H2.out, h3, H4.out]; rfl, hb3.out⟩
        | true =>
          refine (within_is _ _ _ _ h4 _).mono ?_
          rintro e w' ⟨rfl, rfl⟩
          have H4 := Aside0.mk h4
          clear h4
          go_wp2
          go_ret
          exact ⟨by rw [E.out, H1.out, H2.out, h3, H4.out]; rfl, hb3.out⟩
def impl_ValidNet.f (a0_0 : Int) (a0_1 : Int) (l0_2 : List (S44)) : Option (Bool) := if okNet a0_0 a0_1 l0_2 = true then some (netB a0_0 a0_1 l0_2) else none
theorem ValidNet_any (s t : Int) (A : Option Addr) (c : Nat) (l : List S44) (w : World) (hr : Kd.C k44 w A l.length l) (hc : l.length ≤ c) (hok : okNet s t l = true) :
    Calls Try.prog 62 #[.agg #[.int .i8 s, .int .i16 t, .slice A l.length c]] w fun e w' => e = .returned (.bool (netB s t l)) ∧ Below w.heap.size w w' := by
  obtain ⟨⟨hs0, hs1, ht0, ht1⟩, hl⟩ := okNet_iff.1 hok
  have HR := Aside0.mk hr
  have HL := Aside0.mk hl
  have E : Aside0 (netB s t l = (inB s 1 8 && (inB t 0 40 && (decide ((l.length : Int) ≤ 20) && !l.any (laneBad s))))) := ⟨by unfold netB; rw [show decide (l.length ≤ 20) = decide ((l.length : Int) ≤ 20) from by congr 1; simp only [eq_iff_iff]; omega]⟩
  clear hr hl hok
  go_enter Try.func62, Try.ntmps62
  go_wp2_with fail
  cases h1 : inB s 1 8 with
  | false =>
    refine (within_is _ _ _ _ h1 _).mono ?_
    rintro e w' ⟨rfl, rfl⟩
    have H1 := Aside0.mk h1
    clear h1
    go_wp2
    go_ret
    exact ⟨by rw [E.out, H1.out]; rfl, (Below.refl _ _).alloc (Nat.le_refl _) _⟩
  | true =>
    refine (within_is _ _ _ _ h1 _).mono ?_
    rintro e w' ⟨rfl, rfl⟩
    have H1 := Aside0.mk h1
    clear h1
    go_wp2_with fail
    cases h2 : inB t 0 40 with
    | false =>
      refine (within_is _ _ _ _ h2 _).mono ?_
      rintro e w' ⟨rfl, rfl⟩
      have H2 := Aside0.mk h2
      clear h2
      go_wp2
      go_ret
      exact ⟨by rw [E.out, H1.out, H2.out]; rfl, (Below.refl _ _).alloc (Nat.le_refl _) _⟩
    | true =>
      refine (within_is _ _ _ _ h2 _).mono ?_
      rintro e w' ⟨rfl, rfl⟩
      have H2 := Aside0.mk h2
      clear h2
      cases h3 : decide ((l.length : Int) ≤ 20) with
      | false =>
        go_wp2
        go_ret
        exact ⟨by rw [E.out, H1.out, H2.out, h3]; rfl, (Below.refl _ _).alloc (Nat.le_refl _) _⟩
      | true =>
        have eg := enters_of Try.func82 (by kernel_rfl) rfl
        go_wp2_with (go_at_call 81; refine (containsFunc_Lane 82 _ eg (laneBad s) A c l _ (Kd.C_alloc HR.out _) hc (lane_pred w.heap.size s t (.slice A l.length c) l _ (by simp) (by go_simp) (by go_simp) (by go_simp) hs0 hs1 HL.out)).mono ?_; rintro e w1 ⟨rfl, hb⟩)
        go_ret
        exact ⟨by rw [E.out, H1.out, H2.out, h3]; rfl, below_call hb⟩
theorem impl_ValidNet.calls (a0_0 : Int) (a0_1 : Int) (A0_2 : Option Addr) (c0_2 : Nat) (l0_2 : List (S44)) (r : Bool) (w : World) (hr0_2 : Kd.C k44 w A0_2 l0_2.length l0_2) (hc0_2 : l0_2.length ≤ c0_2) (h : impl_ValidNet.f a0_0 a0_1 l0_2 = some r) :
    Calls Try.prog 62 #[.agg #[.int .i8 a0_0, .int .i16 a0_1, .slice A0_2 l0_2.length c0_2]] w fun e w' => e = .returned (.bool r) ∧ Below w.heap.size w w' := by
  unfold impl_ValidNet.f at h
  split at h
  · cases h
    exact ValidNet_any _ _ _ _ _ w hr0_2 hc0_2 ‹_›
  · cases h
end Go.Proofs.Yticfecncdpdanaa.Q
/- spec's l07Ok and ValidNet: they tell netB, for nets whose fields lie in their kinds. -/
set_option linter.unusedVariables false
set_option linter.unusedSimpArgs false
namespace Go.Proofs.Yticfecncdpdanaa.Q
open Go.RowKit Go.Proofs.YticfecncdpdanaaW.PrintWords Go.Proofs.YticfecncdpdanaaW.PrintLast Go.Proofs.YticfecncdpdanaaW.PrintMore

theorem l00In_is (n lo hi : Int) (b : Bool) (h : inB n lo hi = b) (w : World) : Calls Try.prog 71 #[.int .i64 n, .int .i64 lo, .int .i64 hi] w fun e w' => e = .returned (.bool b) ∧ w = w' := by
  subst h
  by_cases h1 : lo ≤ n
  · by_cases h2 : n ≤ hi
    · go_enter Try.func71, Try.ntmps71
      go_wp2
      go_ret
      exact ⟨by simp [inB, h1, h2], rfl⟩
    · go_enter Try.func71, Try.ntmps71
      go_wp2
      go_ret
      exact ⟨by simp [inB, h2], rfl⟩
  · have h3 : inB n lo hi = false := by rw [inB_false]; omega
    go_enter Try.func71, Try.ntmps71
    go_wp2
    go_ret
    exact ⟨rfl, rfl⟩
theorem l07Station_is (B : Nat) (s x : Int) (b : Bool) (w : World) (c0 : w.cell? ⟨B, 0, none⟩ = some (.int .i8 s)) (hs0 : -128 ≤ s) (hs1 : s ≤ 127) (h : inB x 0 (s - 1) = b) :
    Calls Try.prog 45 #[.pointer (some ⟨B, 0, none⟩), .int .i64 x] w fun e w' => e = .returned (.bool b) ∧ w = w' := by
  have H := Aside0.mk h
  clear h
  go_enter Try.func45, Try.ntmps45
  go_wp2_with fail
  refine (l00In_is _ _ _ _ H.out _).mono ?_
  rintro e w' ⟨rfl, rfl⟩
  go_wp2
  go_ret
  exact ⟨rfl, rfl⟩
theorem drop_cons_of {α : Type} (l : List α) (z : α) (i : Nat) (h : i < l.length) : l.drop i = l.getD i z :: l.drop (i + 1) := by
  rw [List.getD_eq_getElem?_getD, List.getElem?_eq_getElem h]
  exact List.drop_eq_getElem_cons h
set_option maxHeartbeats 2000000 in
theorem l07Ok_is (B : Nat) (s t : Int) (A : Option Addr) (c : Nat) (l : List S44) (w : World) (hB : B < w.heap.size) (c0 : w.cell? ⟨B, 0, none⟩ = some (.int .i8 s)) (c1 : w.cell? ⟨B, 1, none⟩ = some (.int .i16 t)) (c2 : w.cell? ⟨B, 2, none⟩ = some (.slice A l.length c))
    (hr : Kd.C k44 w A l.length l) (hc : l.length ≤ c) (hok : okNet s t l = true) :
    Calls Try.prog 70 #[.pointer (some ⟨B, 0, none⟩)] w fun e w' => e = .returned (.bool (netB s t l)) ∧ Below w.heap.size w w' := by
  obtain ⟨⟨hs0, hs1, ht0, ht1⟩, hl⟩ := okNet_iff.1 hok
  have HR := Aside0.mk hr
  have HL := Aside0.mk hl
  have E : Aside0 (netB s t l = (inB s 1 8 && (inB t 0 40 && (decide ((l.length : Int) ≤ 20) && !l.any (laneBad s))))) := ⟨by unfold netB; rw [show decide (l.length ≤ 20) = decide ((l.length : Int) ≤ 20) from by congr 1; simp only [eq_iff_iff]; omega]⟩
  clear hr hl hok
  go_enter Try.func70, Try.ntmps70
  go_wp2_with fail
  cases h1 : inB s 1 8 with
  | false =>
    refine (l00In_is _ _ _ _ h1 _).mono ?_
    rintro e w' ⟨rfl, rfl⟩
    have H1 := Aside0.mk h1
    clear h1
    go_wp2
    go_ret
    exact ⟨by rw [E.out, H1.out]; rfl, Below.refl _ _⟩
  | true =>
    refine (l00In_is _ _ _ _ h1 _).mono ?_
    rintro e w' ⟨rfl, rfl⟩
    have H1 := Aside0.mk h1
    clear h1
    go_wp2_with fail
    cases h2 : inB t 0 40 with
    | false =>
      refine (l00In_is _ _ _ _ h2 _).mono ?_
      rintro e w' ⟨rfl, rfl⟩
      have H2 := Aside0.mk h2
      clear h2
      go_wp2
      go_ret
      exact ⟨by rw [E.out, H1.out, H2.out]; rfl, Below.refl _ _⟩
    | true =>
      refine (l00In_is _ _ _ _ h2 _).mono ?_
      rintro e w' ⟨rfl, rfl⟩
      have H2 := Aside0.mk h2
      clear h2
      cases h3 : decide ((20 : Int) < (l.length : Int)) with
      | true =>
        have h3' := of_decide_eq_true h3
        go_wp2
        go_ret
        exact ⟨by rw [E.out, H1.out, H2.out, decide_eq_false (by omega)]; rfl, Below.refl _ _⟩
      | false =>
        have h3' := of_decide_eq_false h3
        go_wp2
        have H3 := Aside0.mk h3'
        have C0 := Aside0.mk c0
        have C1 := Aside0.mk c1
        have C2 := Aside0.mk c2
        clear c0 c1 c2 h3
        go_loopg [3] l.length (fun gg v3 wr => ∃ kk : Nat, kk ≤ l.length ∧ l.length - kk ≤ gg ∧ v3 = .int .i64 kk ∧ Aside0 (Below w.heap.size w wr) ∧ Aside0 ((l.drop kk).any (laneBad s) = l.any (laneBad s)))
        case atStart => exact ⟨0, Nat.zero_le _, by omega, rfl, ⟨Below.refl _ w⟩, ⟨by rw [List.drop_zero]⟩⟩
        case round =>
          obtain ⟨kk, hkk, hg, rfl, BW, HA⟩ := hrel
          have d0 := (BW.out.cell (p := ⟨B, 0, none⟩) hB).trans C0.out
          have d2 := (BW.out.cell (p := ⟨B, 2, none⟩) hB).trans C2.out
          have hBW : B < wr.heap.size := Nat.lt_of_lt_of_le hB BW.out.size
          by_cases hlt : kk < l.length
          · have hltz : (kk : Int) < (l.length : Int) := by omega
            obtain ⟨ad, e, hx0, hx1, hx2, hx3⟩ := at_T44 (Kd.C_below HR.out BW.out) (kk : Int) (by omega) hltz
            obtain ⟨a1, a2, a3, a4, a5, a6, a7, a8⟩ := okLane_iff.1 (HL.out (l.getD kk z44) (by rw [List.getD_eq_getElem?_getD, List.getElem?_eq_getElem hlt]; exact List.getElem_mem hlt))
            have hd := drop_cons_of l z44 kk hlt
            simp only [rd_T44, Int.toNat_natCast] at hx0 hx1 hx2 hx3
            subst e
            generalize hy : l.getD kk z44 = y at hx0 hx1 hx2 hx3 a1 a2 a3 a4 a5 a6 a7 a8 hd
            have B' := Aside0.mk hy
            have HD : Aside0 (l.any (laneBad s) = (laneBad s y || (l.drop (kk + 1)).any (laneBad s))) := ⟨by rw [← HA.out, hd, List.any_cons]⟩
            obtain ⟨f, g, m, n⟩ := y
            have EB : Aside0 (laneBad s ⟨f, g, m, n⟩ = (!inB f 0 (s - 1) || (!inB g 0 (s - 1) || (f == g || (!inB m 1 n || decide (40 < n)))))) := ⟨rfl⟩
            simp only at a1 a2 a3 a4 a5 a6 a7 a8 hx0 hx1 hx2 hx3
            clear hy hd HA
            go_wp2_with fail
            cases h4 : inB f 0 (s - 1) with
            | false =>
              refine (l07Station_is B s f _ _ (by go_simp) hs0 hs1 h4).mono ?_
              rintro e w' ⟨rfl, rfl⟩
              have H4 := Aside0.mk h4
              clear h4
              go_wp2
              go_ret
              exact ⟨by rw [E.out, H1.out, H2.out, decide_eq_true (by have := H3.out; omega), HD.out, EB.out, H4.out]; rfl, BW.out.alloc BW.out.size _⟩
            | true =>
              refine (l07Station_is B s f _ _ (by go_simp) hs0 hs1 h4).mono ?_
              rintro e w' ⟨rfl, rfl⟩
              have H4 := Aside0.mk h4
              clear h4
              go_wp2_with fail
              cases h5 : inB g 0 (s - 1) with
              | false =>
                refine (l07Station_is B s g _ _ (by go_simp) hs0 hs1 h5).mono ?_
                rintro e w' ⟨rfl, rfl⟩
                have H5 := Aside0.mk h5
                clear h5
                go_wp2
                go_ret
                exact ⟨by rw [E.out, H1.out, H2.out, decide_eq_true (by have := H3.out; omega), HD.out, EB.out, H4.out, H5.out]; rfl, BW.out.alloc BW.out.size _⟩
              | true =>
                refine (l07Station_is B s g _ _ (by go_simp) hs0 hs1 h5).mono ?_
                rintro e w' ⟨rfl, rfl⟩
                have H5 := Aside0.mk h5
                clear h5
                cases h6 : (f == g) with
                | true =>
                  go_wp2
                  go_ret
                  exact ⟨by rw [E.out, H1.out, H2.out, decide_eq_true (by have := H3.out; omega), HD.out, EB.out, H4.out, H5.out, h6]; rfl, BW.out.alloc BW.out.size _⟩
                | false =>
                  cases h7 : decide (m < 1) with
                  | true =>
                    have h7' := of_decide_eq_true h7
                    go_wp2
                    go_ret
                    exact ⟨by rw [E.out, H1.out, H2.out, decide_eq_true (by have := H3.out; omega), HD.out, EB.out, H4.out, H5.out, h6, inB_false.2 (by omega)]; rfl, BW.out.alloc BW.out.size _⟩
                  | false =>
                    have h7' := of_decide_eq_false h7
                    cases h8 : decide (n < m) with
                    | true =>
                      have h8' := of_decide_eq_true h8
                      go_wp2
                      go_ret
                      exact ⟨by rw [E.out, H1.out, H2.out, decide_eq_true (by have := H3.out; omega), HD.out, EB.out, H4.out, H5.out, h6, inB_false.2 (by omega)]; rfl, BW.out.alloc BW.out.size _⟩
                    | false =>
                      have h8' := of_decide_eq_false h8
                      cases h9 : decide (40 < n) with
                      | true =>
                        go_wp2
                        go_ret
                        exact ⟨by rw [E.out, H1.out, H2.out, decide_eq_true (by have := H3.out; omega), HD.out, EB.out, H4.out, H5.out, h6, inB_true.2 ⟨by omega, by omega⟩, h9]; rfl, BW.out.alloc BW.out.size _⟩
                      | false =>
                        have HD2 : Aside0 ((l.drop (kk + 1)).any (laneBad s) = l.any (laneBad s)) := ⟨by rw [HD.out, EB.out, H4.out, H5.out, h6, inB_true.2 ⟨by omega, by omega⟩, h9]; rfl⟩
                        go_wp2
                        go_roundg (l.length - (kk + 1))
                        case measure => omega
                        case rel => exact ⟨kk + 1, by omega, by omega, by go_num, ⟨BW.out.alloc BW.out.size _⟩, HD2⟩
          · have hltz : ¬ (kk : Int) < (l.length : Int) := by omega
            have hk : kk = l.length := by omega
            have HD2 : Aside0 (l.any (laneBad s) = false) := ⟨by rw [← HA.out, List.drop_of_length_le (by omega)]; rfl⟩
            clear HA
            subst hk
            go_wp2
            go_ret
            exact ⟨by rw [E.out, H1.out, H2.out, decide_eq_true (by have := H3.out; omega), HD2.out]; rfl, BW.out⟩
def spec_ValidNet.f (a0_0 : Int) (a0_1 : Int) (l0_2 : List (S44)) : Option (Bool) := if okNet a0_0 a0_1 l0_2 = true then some (netB a0_0 a0_1 l0_2) else none
end Go.Proofs.Yticfecncdpdanaa.Q
/- impl.areWithin, netCode, unless: the code of a net, stations and hours: 1 where the net is not valid, else 2 where a station or an hour is not there, else 0. -/
set_option linter.unusedVariables false
set_option linter.unusedSimpArgs false
namespace Go.Proofs.Yticfecncdpdanaa.Q
open Go.RowKit Go.Proofs.YticfecncdpdanaaW.PrintWords Go.Proofs.YticfecncdpdanaaW.PrintLast Go.Proofs.YticfecncdpdanaaW.PrintMore

theorem unless_is (b : Bool) (c : Int) (w : World) : Calls Try.prog 63 #[.bool b, .int .i64 c] w fun e w' => e = .returned (.int .i64 (if b = true then 0 else c)) ∧ w = w' := by
  cases b with
  | true =>
    go_enter Try.func63, Try.ntmps63
    go_wp2
    go_ret
    exact ⟨rfl, rfl⟩
  | false =>
    go_enter Try.func63, Try.ntmps63
    go_wp2
    go_ret
    exact ⟨rfl, rfl⟩
theorem within_pred (B1 B2 : Nat) (lo hi : Int) (l : List Int) (w : World) (h1 : B1 < w.heap.size) (h2 : B2 < w.heap.size) (c1 : w.cell? ⟨B1, 0, none⟩ = some (.int .i64 lo)) (c2 : w.cell? ⟨B2, 0, none⟩ = some (.int .i64 hi)) :
    PredInt 84 #[.pointer (some ⟨B1, 0, none⟩), .pointer (some ⟨B2, 0, none⟩)] (fun n => !inB n lo hi) l w := by
  intro W x hx hb
  have d1 := (hb.cell (p := ⟨B1, 0, none⟩) h1).trans c1
  have d2 := (hb.cell (p := ⟨B2, 0, none⟩) h2).trans c2
  clear c1 c2 hx hb
  simp only [List.append_toArray, List.cons_append, List.nil_append]
  go_enter Try.func84, Try.ntmps84
  go_wp2_with (first | (go_at_call 80; refine (within_is _ _ _ _ rfl _).mono ?_; rintro e w' ⟨rfl, rfl⟩) | go_quiet ((go_at_call 80; exact Calls.quiet_of_same ((within_is _ _ _ _ rfl _).mono fun e w' h => ⟨h.1, h.2.symm⟩))))
  go_ret
  exact ⟨rfl, Below.refl _ _⟩
def allIn (l : List Int) (lo hi : Int) : Bool := l.all fun n => inB n lo hi
theorem allIn_not (l : List Int) (lo hi : Int) : (!l.any fun n => !inB n lo hi) = allIn l lo hi := by
  unfold allIn
  induction l with
  | nil => rfl
  | cons x l ih => rw [List.any_cons, List.all_cons, ← ih]; cases inB x lo hi <;> simp
theorem areWithin_is (A : Option Addr) (c : Nat) (l : List Int) (lo hi : Int) (w : World) (hr : Kd.C (Kd.int .i64) w A l.length l) (hc : l.length ≤ c) :
    Calls Try.prog 67 #[.slice A l.length c, .int .i64 lo, .int .i64 hi] w fun e w' => e = .returned (.bool (allIn l lo hi)) ∧ Below w.heap.size w w' := by
  have HR := Aside0.mk hr
  clear hr
  have eg := enters_of Try.func84 (by kernel_rfl) rfl
  go_enter Try.func67, Try.ntmps67
  go_wp2_with (go_at_call 64; refine (containsFunc_Int 84 _ eg (fun n => !inB n lo hi) A c l _ (Kd.C_alloc (Kd.C_alloc HR.out _) _) hc (within_pred w.heap.size (w.heap.size + 1) lo hi l _ (by simp; omega) (by simp) (by go_simp) (by go_simp))).mono ?_; rintro e w1 ⟨rfl, hb⟩)
  go_ret
  refine ⟨by rw [← allIn_not]; rfl, ?_⟩
  exact (((Below.refl _ _).alloc (Nat.le_refl _) _).alloc (by simp) _).trans (hb.mono (by simp; omega))
theorem station_pred (B : Nat) (s t : Int) (v : Value) (l : List Int) (w : World) (hB : B < w.heap.size) (c0 : w.cell? ⟨B, 0, none⟩ = some (.int .i8 s)) (c1 : w.cell? ⟨B, 1, none⟩ = some (.int .i16 t)) (c2 : w.cell? ⟨B, 2, none⟩ = some v)
    (hs0 : -128 ≤ s) (hs1 : s ≤ 127) : PredInt 65 #[.pointer (some ⟨B, 0, none⟩)] (fun n => !inB n 0 (s - 1)) l w := by
  intro W x hx hb
  have d0 := (hb.cell (p := ⟨B, 0, none⟩) hB).trans c0
  have d1 := (hb.cell (p := ⟨B, 1, none⟩) hB).trans c1
  have d2 := (hb.cell (p := ⟨B, 2, none⟩) hB).trans c2
  clear c0 c1 c2 hx hb
  simp only [List.append_toArray, List.cons_append, List.nil_append]
  go_enter Try.func65, Try.ntmps65
  go_wp2_with (go_at_call 66; refine (isStation_is _ _ _ _ _ hs0 hs1 rfl _).mono ?_; rintro e w' ⟨rfl, hb⟩)
  go_ret
  exact ⟨rfl, hb⟩
/-- The code of a net, stations and hours. -/
def codeB (net fine : Bool) : Int := if net = true then (if fine = true then 0 else 2) else 1
theorem netCode_is (s t : Int) (A : Option Addr) (c : Nat) (l : List S44) (A1 : Option Addr) (c1 : Nat) (ss : List Int) (A2 : Option Addr) (c2 : Nat) (hs : List Int) (w : World) (hr : Kd.C k44 w A l.length l) (hc : l.length ≤ c) (hok : okNet s t l = true)
    (hr1 : Kd.C (Kd.int .i64) w A1 ss.length ss) (hc1 : ss.length ≤ c1) (hr2 : Kd.C (Kd.int .i64) w A2 hs.length hs) (hc2 : hs.length ≤ c2) :
    Calls Try.prog 33 #[.agg #[.int .i8 s, .int .i16 t, .slice A l.length c], .slice A1 ss.length c1, .slice A2 hs.length c2] w fun e w' =>
      e = .returned (.int .i64 (codeB (netB s t l) (allIn ss 0 (s - 1) && allIn hs 0 300))) ∧ Below w.heap.size w w' := by
  obtain ⟨⟨hs0, hs1, ht0, ht1⟩, hl⟩ := okNet_iff.1 hok
  have HR := Aside0.mk hr
  have HR1 := Aside0.mk hr1
  have HR2 := Aside0.mk hr2
  have OK := Aside0.mk hok
  clear hr hr1 hr2 hok hl
  have eg := enters_of Try.func65 (by kernel_rfl) rfl
  go_enter Try.func33, Try.ntmps33
  go_wp2_with fail
  refine (ValidNet_any s t A c l _ (Kd.C_alloc HR.out _) hc OK.out).mono ?_
  rintro e w1 ⟨rfl, hb⟩
  have hb1 := Aside0.mk (below_call hb)
  obtain ⟨hcl, hf⟩ := bcell hb
  cases h1 : netB s t l with
  | false =>
    have H1 := Aside0.mk h1
    clear h1
    go_wp2
    go_ret
    exact ⟨by rw [H1.out]; rfl, hb1.out⟩
  | true =>
    have H1 := Aside0.mk h1
    clear h1
    have hz : w.heap.size < w1.heap.size := by have := hb.size; simp at this; omega
    clear hb
    go_wp2_with fail
    refine (containsFunc_Int 65 _ eg (fun n => !inB n 0 (s - 1)) A1 c1 ss _ (Kd.C_below HR1.out hb1.out) hc1 (station_pred w.heap.size s t (.slice A l.length c) ss _ hz (by go_simp) (by go_simp) (by go_simp) hs0 hs1)).mono ?_
    rintro e w2 ⟨rfl, hb2⟩
    have hb3 := Aside0.mk (hb1.out.trans (hb2.mono hb1.out.size))
    rw [show ((ss.any fun n => !inB n 0 (s - 1))) = !allIn ss 0 (s - 1) by rw [← allIn_not, Bool.not_not]]
    cases h2 : allIn ss 0 (s - 1) with
    | false =>
      have H2 := Aside0.mk h2
      clear hcl hf hb2 h2
      go_wp2_with fail
      refine (unless_is _ _ _).mono ?_
      rintro e w' ⟨rfl, rfl⟩
      go_wp2
      go_ret
      exact ⟨by rw [H1.out, H2.out]; rfl, hb3.out⟩
    | true =>
      have H2 := Aside0.mk h2
      clear hcl hf hb2 h2
      go_wp2_with fail
      refine (areWithin_is A2 c2 hs 0 300 _ (Kd.C_below HR2.out hb3.out) hc2).mono ?_
      rintro e w3 ⟨rfl, hb4⟩
      have hb5 := Aside0.mk (hb3.out.trans (hb4.mono hb3.out.size))
      clear hb4
      cases h3 : allIn hs 0 300 with
      | false =>
        have H3 := Aside0.mk h3
        clear h3
        go_wp2_with fail
        refine (unless_is _ _ _).mono ?_
        rintro e w' ⟨rfl, rfl⟩
        go_wp2
        go_ret
        exact ⟨by rw [H1.out, H2.out, H3.out]; rfl, hb5.out⟩
      | true =>
        have H3 := Aside0.mk h3
        clear h3
        go_wp2_with fail
        refine (unless_is _ _ _).mono ?_
        rintro e w' ⟨rfl, rfl⟩
        go_wp2
        go_ret
        exact ⟨by rw [H1.out, H2.out, H3.out]; rfl, hb5.out⟩
end Go.Proofs.Yticfecncdpdanaa.Q
/- impl.LanesFrom: the lanes that leave a station, by their indices; for nets whose fields lie in their kinds. -/
set_option linter.unusedVariables false
set_option linter.unusedSimpArgs false
namespace Go.Proofs.Yticfecncdpdanaa.Q
open Go.RowKit Go.Proofs.YticfecncdpdanaaW.PrintWords Go.Proofs.YticfecncdpdanaaW.PrintLast Go.Proofs.YticfecncdpdanaaW.PrintMore

theorem infoI64 : (Try.prog.info? 2).map (fun i => (i.zero, i.size, i.bytes)) = some (some (.int .i64 0), 1, 8) := by kernel_rfl
/-- The indices, from i on, of the lanes that leave a station. -/
def lanesFrom (st : Int) : List S44 → Int → List Int
  | [], _ => []
  | x :: r, i => if x.f0 = st then i :: lanesFrom st r (i + 1) else lanesFrom st r (i + 1)
theorem lanesFrom_length (st : Int) (l : List S44) (i : Int) : (lanesFrom st l i).length ≤ l.length := by
  induction l generalizing i with
  | nil => simp [lanesFrom]
  | cons x r ih =>
    unfold lanesFrom
    have := ih (i + 1)
    split
    · simp; omega
    · simp; omega
theorem drop_cons_of' {α : Type} (l : List α) (z : α) (i : Nat) (h : i < l.length) : l.drop i = l.getD i z :: l.drop (i + 1) := by
  rw [List.getD_eq_getElem?_getD, List.getElem?_eq_getElem h]
  exact List.drop_eq_getElem_cons h
def coded {α : Type} (c : Int) (z x : α) : α × Int := if c = 0 then (x, 0) else (z, c)
/-- A slice of one whole number, just made. -/
theorem one_reads (w : World) (n : Int) : Kd.C (Kd.int .i64) (w.alloc (.cells #[.int .i64 n] 2)) (some ⟨w.heap.size, 0, none⟩) [n].length [n] := by
  refine ⟨rfl, by simp, fun _ => ⟨_, rfl, fun j p hj => ⟨[.int .i64 p], rfl, rfl, fun i u hu => ?_⟩⟩⟩
  cases j with
  | zero =>
    cases i with
    | zero =>
      simp at hj hu
      subst hj hu
      go_simp
    | succ i => simp at hu
  | succ j => simp at hj
theorem one_reads' (w : World) (b : Nat) (hb : b = w.heap.size) (n : Int) : Kd.C (Kd.int .i64) (w.alloc (.cells #[.int .i64 n] 2)) (some ⟨b, 0, none⟩) [n].length [n] := by
  subst hb
  exact one_reads w n
theorem nil_reads {α : Type} (d : Kd α) (w : World) (A : Option Addr) : Kd.C d w A ([] : List α).length [] := ⟨rfl, by simp, fun h => absurd h (by simp)⟩
def lanesRes (s t : Int) (l : List S44) (st : Int) : List Int × Int := coded (codeB (netB s t l) (inB st 0 (s - 1))) [] (lanesFrom st l 0)
theorem allIn_one (n lo hi : Int) : allIn [n] lo hi = inB n lo hi := by simp [allIn]
def impl_LanesFrom.f (a0_0 : Int) (a0_1 : Int) (l0_2 : List (S44)) (a1 : Int) : Option (List Int × Int) := if okNet a0_0 a0_1 l0_2 = true then some (lanesRes a0_0 a0_1 l0_2 a1) else none
end Go.Proofs.Yticfecncdpdanaa.Q
/- spec's l07Asked and LanesFrom, for nets whose fields lie in their kinds. -/
set_option linter.unusedVariables false
set_option linter.unusedSimpArgs false
namespace Go.Proofs.Yticfecncdpdanaa.Q
open Go.RowKit Go.Proofs.YticfecncdpdanaaW.PrintWords Go.Proofs.YticfecncdpdanaaW.PrintLast Go.Proofs.YticfecncdpdanaaW.PrintMore

/-- A net in memory, as spec's functions are given it. -/
structure NetAt (B : Nat) (s t : Int) (l : List S44) (w : World) : Prop where
  mk ::
  out : B < w.heap.size ∧ ∃ A c, l.length ≤ c ∧ w.cell? ⟨B, 0, none⟩ = some (.int .i8 s) ∧ w.cell? ⟨B, 1, none⟩ = some (.int .i16 t) ∧ w.cell? ⟨B, 2, none⟩ = some (.slice A l.length c) ∧ Kd.C k44 w A l.length l
theorem NetAt.below {B : Nat} {s t : Int} {l : List S44} {w w1 : World} (h : NetAt B s t l w) (hb : Below w.heap.size w w1) : NetAt B s t l w1 := by
  obtain ⟨h0, A, c, h1, h2, h3, h4, h5⟩ := h.out
  exact ⟨Nat.lt_of_lt_of_le h0 hb.size, A, c, h1, (hb.cell (p := ⟨B, 0, none⟩) h0).trans h2, (hb.cell (p := ⟨B, 1, none⟩) h0).trans h3, (hb.cell (p := ⟨B, 2, none⟩) h0).trans h4, Kd.C_below h5 hb⟩
theorem NetAt.new {s t : Int} {l : List S44} {w : World} {A : Option Addr} {c : Nat} (hr : Kd.C k44 w A l.length l) (hc : l.length ≤ c) (T : TypeId) :
    NetAt w.heap.size s t l (w.alloc (.cells #[.int .i8 s, .int .i16 t, .slice A l.length c] T)) :=
  ⟨by simp, A, c, hc, by go_simp, by go_simp, by go_simp, Kd.C_alloc hr _⟩
theorem NetAt.alloc {B : Nat} {s t : Int} {l : List S44} {w : World} (h : NetAt B s t l w) (o : Obj) : NetAt B s t l (w.alloc o) := h.below ((Below.refl _ _).alloc (Nat.le_refl _) o)
theorem own_lit0 (W : World) (base : Nat) (e : TypeId) (b : Nat) (hb : b = W.heap.size) (hbase : base ≤ W.heap.size) : (W.alloc (.cells #[] e)).ownsRow base e 1 (.slice (some ⟨b, 0, none⟩) 0 0) ([] : List Int).length (nums .i64 []) := by
  subst hb
  exact own_lit W base e .i64 [] hbase (by simp)
theorem l07Ok_at {B : Nat} {s t : Int} {l : List S44} {w : World} (h : NetAt B s t l w) (hok : okNet s t l = true) :
    Calls Try.prog 70 #[.pointer (some ⟨B, 0, none⟩)] w fun e w' => e = .returned (.bool (netB s t l)) ∧ Below w.heap.size w w' := by
  obtain ⟨h0, A, c, h1, h2, h3, h4, h5⟩ := h.out
  exact l07Ok_is B s t A c l w h0 h2 h3 h4 h5 h1 hok
theorem l07Station_at {B : Nat} {s t : Int} {l : List S44} {w : World} (h : NetAt B s t l w) (hok : okNet s t l = true) (x : Int) :
    Calls Try.prog 45 #[.pointer (some ⟨B, 0, none⟩), .int .i64 x] w fun e w' => e = .returned (.bool (inB x 0 (s - 1))) ∧ w = w' := by
  obtain ⟨h0, A, c, h1, h2, h3, h4, h5⟩ := h.out
  obtain ⟨⟨hs0, hs1, _, _⟩, _⟩ := okNet_iff.1 hok
  exact l07Station_is B s x _ w h2 hs0 hs1 rfl
theorem l07Asked_at {B : Nat} {s t : Int} {l : List S44} {w : World} (h : NetAt B s t l w) (hok : okNet s t l = true) (fine : Bool) :
    Calls Try.prog 36 #[.pointer (some ⟨B, 0, none⟩), .bool fine] w fun e w' => e = .returned (.int .i64 (codeB (netB s t l) fine)) ∧ Below w.heap.size w w' := by
  have HO := Aside0.mk hok
  clear hok
  go_enter Try.func36, Try.ntmps36
  go_wp2_with fail
  refine (l07Ok_at h HO.out).mono ?_
  rintro e w1 ⟨rfl, hb⟩
  have HB := Aside0.mk hb
  clear hb
  cases h1 : netB s t l with
  | false =>
    have H1 := Aside0.mk h1
    clear h1
    go_wp2
    go_ret
    exact ⟨by rw [H1.out]; rfl, HB.out⟩
  | true =>
    have H1 := Aside0.mk h1
    clear h1
    cases fine with
    | true =>
      go_wp2
      go_ret
      exact ⟨by rw [H1.out]; rfl, HB.out⟩
    | false =>
      go_wp2
      go_ret
      exact ⟨by rw [H1.out]; rfl, HB.out⟩
theorem netB_len {s t : Int} {l : List S44} (h1 : netB s t l = true) : l.length ≤ 20 := by
  simp only [netB, Bool.and_eq_true, decide_eq_true_eq] at h1
  exact h1.2.2.1
def spec_LanesFrom.f (a0_0 : Int) (a0_1 : Int) (l0_2 : List (S44)) (a1 : Int) : Option (List Int × Int) := if okNet a0_0 a0_1 l0_2 = true then some (lanesRes a0_0 a0_1 l0_2 a1) else none
end Go.Proofs.Yticfecncdpdanaa.Q
