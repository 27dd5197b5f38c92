/- spec's l07Goes, CanGo. -/
import Derived.Test.YticfecncdpdanaaHSBeh
import Derived.Deep.MidRow
import Derived.BigRegion
set_option linter.unusedVariables false
set_option linter.unusedSimpArgs false
namespace Go.Proofs.Yticfecncdpdanaa.Q
open Go.RowKit Go.Proofs.YticfecncdpdanaaW.PrintWords Go.Proofs.YticfecncdpdanaaW.PrintLast Go.Proofs.YticfecncdpdanaaW.PrintMore
set_option maxHeartbeats 4000000 in
set_option maxRecDepth 100000 in
theorem l07Goes_is {B : Nat} {s t : Int} {l : List S44} (a0 h0 b0 h1 : Nat) (wo : Int) (w : World) (hn : NetAt B s t l w) (hl : ∀ x ∈ l, laneV x) (hlen : l.length ≤ 20) (ht0 : 0 ≤ t) (ht1 : t ≤ 40) (ha : a0 < 8) (hh : h0 < 301) (hb : b0 < 8) (hh1 : h1 < 301) (hw0 : -1 ≤ wo) (hw1 : wo ≤ 8) :
    Calls Try.prog 77 #[.pointer (some ⟨B, 0, none⟩), .agg #[.int .i8 (a0 : Int), .int .i16 (h0 : Int)], .agg #[.int .i8 (b0 : Int), .int .i16 (h1 : Int)], .int .i64 wo] w fun e w' =>
      e = .returned (.bool (arrB t (but wo l) a0 h0 b0 h1)) ∧ Below w.heap.size w w' := by
  have HN := Aside0.mk hn
  have HL := Aside0.mk hl
  clear hn hl
  go_enter Try.func77, Try.ntmps77
  go_wp2_with fail
  refine (l07Behind_is a0 h0 wo _ ((HN.out.alloc _).alloc _) HL.out hlen ht0 ht1 ha hh hw0 hw1).mono ?_
  rintro e w1 ⟨gb, hgb, N, lN, hR, hN, rfl, hb1⟩
  have HE : Aside0 (N.getD (b0 * 301 + h1) false = arrB t (but wo l) a0 h0 b0 h1) := ⟨by rw [← arrB_eq (fun x hx => HL.out x (but_mem hx)) hN hb hh1]; rfl⟩
  have HB : Aside0 (Below w.heap.size w w1) := ⟨(((Below.refl _ _).alloc (Nat.le_refl _) _).alloc (by simp) _).trans (hb1.mono (by simp; omega))⟩
  have d0 := (hb1.cell (p := ⟨w.heap.size + 1, 0, none⟩) (by simp)).trans (show _ = some (.int .i8 (b0 : Int)) by go_simp)
  have d1 := (hb1.cell (p := ⟨w.heap.size + 1, 1, none⟩) (by simp)).trans (show _ = some (.int .i16 (h1 : Int)) by go_simp)
  have hc := hR.cell (b0 * 301 + h1) (by omega)
  rw [HE.out] at hc
  have hbz : (b0 : Int) < 8 := by omega
  have hhz : (h1 : Int) < 301 := by omega
  clear hb1 hR hN
  go_wp2
  go_big_quiet (fail)
  go_wp2
  go_ret
  exact ⟨rfl, below_drewN HB.out _⟩
theorem arrB_but {t : Int} {l : List S44} (hl : ∀ x ∈ l, laneV x) (a0 h0 s h : Nat) : arrB t (but (-1) l) a0 h0 s h = arrB t l a0 h0 s h := by rw [but_none hl]
theorem scansIn_eq2 (s : Int) (a b : S31) : scansIn s [a, b] = (scanIn s a && scanIn s b) := by
  simp only [scansIn, allIn, scanIn, List.map_cons, List.map_nil, List.all_cons, List.all_nil, Bool.and_true]
  cases inB a.f0 0 (s - 1) <;> cases inB b.f0 0 (s - 1) <;> cases inB a.f1 0 300 <;> rfl
theorem scansIn_eq1 (s : Int) (a : S31) : scansIn s [a] = scanIn s a := by
  simp only [scansIn, allIn, scanIn, List.map_cons, List.map_nil, List.all_cons, List.all_nil, Bool.and_true]
def spec_CanGo.f (a0_0 : Int) (a0_1 : Int) (l0_2 : List (S44)) (a1_0 : Int) (a1_1 : Int) (a2_0 : Int) (a2_1 : Int) : Option (Bool × Int) :=
  if okNet a0_0 a0_1 l0_2 = true ∧ okScan ⟨a1_0, a1_1⟩ = true ∧ okScan ⟨a2_0, a2_1⟩ = true then some (canGoRes a0_0 a0_1 l0_2 ⟨a1_0, a1_1⟩ ⟨a2_0, a2_1⟩) else none
end Go.Proofs.Yticfecncdpdanaa.Q
/- impl's firstOf, ArrivalsAt. -/
set_option linter.unusedVariables false
set_option linter.unusedSimpArgs false
namespace Go.Proofs.Yticfecncdpdanaa.Q
open Go.RowKit Go.Proofs.YticfecncdpdanaaW.PrintWords Go.Proofs.YticfecncdpdanaaW.PrintLast Go.Proofs.YticfecncdpdanaaW.PrintMore
/-- The first code that is not 0. -/
def firstB : List Int → Int
  | [] => 0
  | c :: r => if c = 0 then firstB r else c
set_option maxHeartbeats 1000000 in
theorem firstOf_is (A : Option Addr) (c : Nat) (l : List Int) (w : World) (hr : Kd.C (Kd.int .i64) w A l.length l) (hc : l.length ≤ c) (hl : l.length ≤ 1048576) :
    Calls Try.prog 31 #[.slice A l.length c] w fun e w' => e = .returned (.int .i64 (firstB l)) ∧ w = w' := by
  have HR := Aside0.mk hr
  clear hr
  go_enter Try.func31, Try.ntmps31
  go_wp2
  go_loopg [7] l.length (fun gg v7 wr => ∃ (kk : Nat), kk ≤ l.length ∧ l.length - kk ≤ gg ∧ v7 = .int .i64 kk ∧ Aside0 (firstB (l.drop kk) = firstB l) ∧ wr = w)
  case atStart => exact ⟨0, by omega, by omega, rfl, ⟨rfl⟩, rfl⟩
  case round =>
    obtain ⟨kk, hkk, hg, rfl, HA, rfl⟩ := hrel
    by_cases hlt : kk < l.length
    · have hltz : (kk : Int) < (l.length : Int) := by omega
      obtain ⟨ad, e, hx0⟩ := at_int64 HR.out kk hlt
      have hd := drop_cons_of' l 0 kk hlt
      subst e
      generalize l.getD kk 0 = y at hx0 hd
      by_cases hy : y = 0
      · have HD : Aside0 (firstB (l.drop (kk + 1)) = firstB l) := ⟨by rw [← HA.out, hd, firstB, if_pos hy]⟩
        clear hd HA
        subst hy
        go_wp2
        go_roundg (l.length - (kk + 1))
        case measure => omega
        case rel => exact ⟨kk + 1, by omega, by omega, by go_num, HD, rfl⟩
      · have HD : Aside0 (y = firstB l) := ⟨by rw [← HA.out, hd, firstB, if_neg hy]⟩
        have hy2 : (y != 0) = true := by simp [hy]
        clear hd HA
        go_wp2
        go_ret
        exact ⟨by rw [← HD.out]; rfl, rfl⟩
    · have hltz : ¬ (kk : Int) < (l.length : Int) := by omega
      have HD : Aside0 (firstB l = 0) := ⟨by rw [← HA.out, List.drop_of_length_le (by omega)]; rfl⟩
      go_wp2
      go_ret
      exact ⟨by rw [HD.out]; rfl, rfl⟩
theorem firstB_two (n f g : Bool) : firstB [codeB n f, codeB n g] = codeB n (f && g) := by
  cases n <;> cases f <;> cases g <;> rfl
theorem below_alloc1 {V W : World} {o : Obj} (h : Below V.heap.size V W) : Below V.heap.size V (W.alloc o) := h.alloc h.size o
theorem below_call1 {V W W2 : World} (h : Below V.heap.size V W) (hb : Below W.heap.size W W2) : Below V.heap.size V W2 := h.trans (hb.mono h.size)
theorem cells5 {V W : World} {p0 p1 p2 p3 p4 : Addr} {v0 v1 v2 v3 v4 : Value} (q0 : V.cell? p0 = some v0) (q1 : V.cell? p1 = some v1) (q2 : V.cell? p2 = some v2) (q3 : V.cell? p3 = some v3) (q4 : V.cell? p4 = some v4) (hB : Below V.heap.size V W) :
    W.cell? p0 = some v0 ∧ W.cell? p1 = some v1 ∧ W.cell? p2 = some v2 ∧ W.cell? p3 = some v3 ∧ W.cell? p4 = some v4 ∧ Below V.heap.size V W :=
  ⟨pw_cell_below hB q0, pw_cell_below hB q1, pw_cell_below hB q2, pw_cell_below hB q3, pw_cell_below hB q4, hB⟩
/-- A slice of two whole numbers, just made. -/
theorem two_reads (w : World) (b : Nat) (hb : b = w.heap.size) (n m : Int) : Kd.C (Kd.int .i64) (w.alloc (.cells #[.int .i64 n, .int .i64 m] 2)) (some ⟨b, 0, none⟩) [n, m].length [n, m] := by
  subst hb
  refine ⟨rfl, by simp, fun _ => ⟨_, rfl, fun j p hj => ⟨[.int .i64 p], rfl, rfl, fun i u hu => ?_⟩⟩⟩
  have hsz : (Kd.int .i64).sz = 1 := rfl
  rw [hsz]
  match j, i, hj, hu with
  | 0, 0, hj, hu => simp at hj hu; subst hj hu; go_simp
  | 1, 0, hj, hu => simp at hj hu; subst hj hu; go_simp
  | 0, i + 1, hj, hu => simp at hu
  | 1, i + 1, hj, hu => simp at hu
  | j + 2, _, hj, hu => simp at hj
/-- The hours, n of them from h on, of which p holds. -/
def hoursFrom (p : Nat → Bool) : Nat → Nat → List Int
  | 0, _ => []
  | n + 1, h => if p h = true then (h : Int) :: hoursFrom p n (h + 1) else hoursFrom p n (h + 1)
theorem hoursFrom_length (p : Nat → Bool) (n h : Nat) : (hoursFrom p n h).length ≤ n := by
  induction n generalizing h with
  | zero => simp [hoursFrom]
  | succ n ih =>
    have := ih (h + 1)
    unfold hoursFrom
    split <;> simp <;> omega
def arrRes (s t : Int) (l : List S44) (a : S31) (st : Int) : List Int × Int := coded (codeB (netB s t l) (scanIn s a && inB st 0 (s - 1))) [] (hoursFrom (fun h => arrB t l a.f0.toNat a.f1.toNat st.toNat h) 301 0)
def impl_ArrivalsAt.f (a0_0 : Int) (a0_1 : Int) (l0_2 : List (S44)) (a1_0 : Int) (a1_1 : Int) (a2 : Int) : Option (List Int × Int) := if okNet a0_0 a0_1 l0_2 = true ∧ okScan ⟨a1_0, a1_1⟩ = true then some (arrRes a0_0 a0_1 l0_2 ⟨a1_0, a1_1⟩ a2) else none
end Go.Proofs.Yticfecncdpdanaa.Q
/- spec's ArrivalsAt. -/
set_option linter.unusedVariables false
set_option linter.unusedSimpArgs false
namespace Go.Proofs.Yticfecncdpdanaa.Q
open Go.RowKit Go.Proofs.YticfecncdpdanaaW.PrintWords Go.Proofs.YticfecncdpdanaaW.PrintLast Go.Proofs.YticfecncdpdanaaW.PrintMore
set_option maxHeartbeats 4000000 in
set_option maxRecDepth 100000 in
theorem sArrivalsAt_any (s t : Int) (A : Option Addr) (c : Nat) (l : List S44) (a0 a1 st : Int) (w : World) (hr : Kd.C k44 w A l.length l) (hc : l.length ≤ c) (hok : okNet s t l = true) (hoa : okScan ⟨a0, a1⟩ = true) :
    Calls Try.prog 13 #[.agg #[.int .i8 s, .int .i16 t, .slice A l.length c], .agg #[.int .i8 a0, .int .i16 a1], .int .i64 st] w fun e w' => ∃ v : Value, e = .returned (.tuple #[v, .int .i64 (arrRes s t l ⟨a0, a1⟩ st).2]) ∧ Kd.R (Kd.int .i64) 2 w' w.heap.size (fun _ => True) v (arrRes s t l ⟨a0, a1⟩ st).1 ∧ Below w.heap.size w w' := by
  have HN := Aside0.mk (NetAt.new (s := s) (t := t) hr hc 28)
  have OK := Aside0.mk hok
  have HOA := Aside0.mk hoa
  clear hr hok hoa
  go_enter Try.func13, Try.ntmps13
  go_wp2_with fail
  have HBW : Aside0 (Below w.heap.size w (((w.alloc (.cells #[.int .i8 s, .int .i16 t, .slice A l.length c] 28)).alloc (.cells #[.int .i8 a0, .int .i16 a1] 31)).alloc (.cells #[] 2))) := ⟨(((Below.refl _ _).alloc (Nat.le_refl _) _).alloc (by simp) _).alloc (by simp; omega) _⟩
  have HVW : Aside0 (w.heap.size ≤ (((w.alloc (.cells #[.int .i8 s, .int .i16 t, .slice A l.length c] 28)).alloc (.cells #[.int .i8 a0, .int .i16 a1] 31)).alloc (.cells #[] 2)).heap.size) := ⟨by simp; omega⟩
  have HN := Aside0.mk ((HN.out.alloc (.cells #[.int .i8 a0, .int .i16 a1] 31)).alloc (.cells #[] 2))
  have HO0 : Aside0 ((((w.alloc (.cells #[.int .i8 s, .int .i16 t, .slice A l.length c] 28)).alloc (.cells #[.int .i8 a0, .int .i16 a1] 31)).alloc (.cells #[] 2)).ownsRow w.heap.size 2 1 (.slice (some ⟨w.heap.size + 1 + 1, 0, none⟩) 0 0) ([] : List Int).length (nums .i64 [])) := ⟨own_lit0 ((w.alloc (.cells #[.int .i8 s, .int .i16 t, .slice A l.length c] 28)).alloc (.cells #[.int .i8 a0, .int .i16 a1] 31)) w.heap.size 2 (w.heap.size + 1 + 1) (by simp) (by simp; omega)⟩
  have q0 : Aside0 ((((w.alloc (.cells #[.int .i8 s, .int .i16 t, .slice A l.length c] 28)).alloc (.cells #[.int .i8 a0, .int .i16 a1] 31)).alloc (.cells #[] 2)).cell? ⟨w.heap.size + 1, 0, none⟩ = some (.int .i8 a0)) := ⟨by go_simp⟩
  have q1 : Aside0 ((((w.alloc (.cells #[.int .i8 s, .int .i16 t, .slice A l.length c] 28)).alloc (.cells #[.int .i8 a0, .int .i16 a1] 31)).alloc (.cells #[] 2)).cell? ⟨w.heap.size + 1, 1, none⟩ = some (.int .i16 a1)) := ⟨by go_simp⟩
  have hz : w.heap.size + 1 + 1 < (((w.alloc (.cells #[.int .i8 s, .int .i16 t, .slice A l.length c] 28)).alloc (.cells #[.int .i8 a0, .int .i16 a1] 31)).alloc (.cells #[] 2)).heap.size := by simp
  generalize (((w.alloc (.cells #[.int .i8 s, .int .i16 t, .slice A l.length c] 28)).alloc (.cells #[.int .i8 a0, .int .i16 a1] 31)).alloc (.cells #[] 2)) = V at *
  refine (l07Scan_at HN.out OK.out a0 a1 HOA.out).mono ?_
  rintro e w1 ⟨rfl, hb⟩
  have H1 := Aside0.mk hb
  clear hb
  cases h1 : scanIn s ⟨a0, a1⟩ with
  | false =>
    have F1 := Aside0.mk h1
    clear h1
    go_wp2_with fail
    refine (l07Asked_at (HN.out.below H1.out) OK.out false).mono ?_
    rintro e w5 ⟨rfl, hb5⟩
    have h5 := H1.out.trans (hb5.mono H1.out.size)
    have hb6 := Aside0.mk (HBW.out.trans (h5.mono HVW.out))
    have HO6 := Aside0.mk (pw_own_below HO0.out h5)
    clear hb5 h5
    cases hn : netB s t l with
    | false =>
      have ER : Aside0 (arrRes s t l ⟨a0, a1⟩ st = ([], 1)) := ⟨by unfold arrRes; rw [hn]; rfl⟩
      clear hn
      simp only [codeB, Bool.false_eq_true, if_false]
      go_wp2
      go_ret2
      rw [ER.out]
      exact ⟨_, rfl, Kd.R_of_own HO6.out (fun _ _ => trivial), hb6.out⟩
    | true =>
      have ER : Aside0 (arrRes s t l ⟨a0, a1⟩ st = ([], 2)) := ⟨by unfold arrRes; rw [hn, F1.out, Bool.false_and]; rfl⟩
      clear hn
      simp only [codeB, Bool.false_eq_true, if_false, if_true]
      go_wp2
      go_ret2
      rw [ER.out]
      exact ⟨_, rfl, Kd.R_of_own HO6.out (fun _ _ => trivial), hb6.out⟩
  | true =>
    have F1 := Aside0.mk h1
    clear h1
    go_wp2_with fail
    refine (l07Station_at (HN.out.below H1.out) OK.out st).mono ?_
    rintro e w' ⟨rfl, rfl⟩
    cases h2 : inB st 0 (s - 1) with
    | false =>
      have F2 := Aside0.mk h2
      clear h2
      go_wp2_with fail
      refine (l07Asked_at (HN.out.below H1.out) OK.out false).mono ?_
      rintro e w5 ⟨rfl, hb5⟩
      have h5 := H1.out.trans (hb5.mono H1.out.size)
      have hb6 := Aside0.mk (HBW.out.trans (h5.mono HVW.out))
      have HO6 := Aside0.mk (pw_own_below HO0.out h5)
      clear hb5 h5
      cases hn : netB s t l with
      | false =>
        have ER : Aside0 (arrRes s t l ⟨a0, a1⟩ st = ([], 1)) := ⟨by unfold arrRes; rw [hn]; rfl⟩
        clear hn
        simp only [codeB, Bool.false_eq_true, if_false]
        go_wp2
        go_ret2
        rw [ER.out]
        exact ⟨_, rfl, Kd.R_of_own HO6.out (fun _ _ => trivial), hb6.out⟩
      | true =>
        have ER : Aside0 (arrRes s t l ⟨a0, a1⟩ st = ([], 2)) := ⟨by unfold arrRes; rw [hn, F1.out, F2.out]; rfl⟩
        clear hn
        simp only [codeB, Bool.false_eq_true, if_false, if_true]
        go_wp2
        go_ret2
        rw [ER.out]
        exact ⟨_, rfl, Kd.R_of_own HO6.out (fun _ _ => trivial), hb6.out⟩
    | true =>
      have F2 := Aside0.mk h2
      clear h2
      go_wp2_with fail
      refine (l07Asked_at (HN.out.below H1.out) OK.out true).mono ?_
      rintro e w5 ⟨rfl, hb5⟩
      have H5 := Aside0.mk (H1.out.trans (hb5.mono H1.out.size))
      have hb6 := Aside0.mk (HBW.out.trans (H5.out.mono HVW.out))
      have HO6 := Aside0.mk (pw_own_below HO0.out H5.out)
      clear hb5
      cases hn : netB s t l with
      | false =>
        have ER : Aside0 (arrRes s t l ⟨a0, a1⟩ st = ([], 1)) := ⟨by unfold arrRes; rw [hn]; rfl⟩
        clear hn
        simp only [codeB, Bool.false_eq_true, if_false]
        go_wp2
        go_ret2
        rw [ER.out]
        exact ⟨_, rfl, Kd.R_of_own HO6.out (fun _ _ => trivial), hb6.out⟩
      | true =>
        have ER : Aside0 (arrRes s t l ⟨a0, a1⟩ st = (hoursFrom (fun h => arrB t l a0.toNat a1.toNat st.toNat h) 301 0, 0)) := ⟨by unfold arrRes; rw [hn, F1.out, F2.out]; rfl⟩
        obtain ⟨hl, hs1, hs8, ht0, ht1⟩ := laneV_of hn
        have hlen := netB_len hn
        have hina := F1.out
        unfold scanIn at hina
        rw [Bool.and_eq_true] at hina
        obtain ⟨x0, x1, hx, hx0, hx1, hx2, hx3⟩ := scansIn_nat hs8 hina
        injection hx with e1 e2
        subst e1 e2
        obtain ⟨hst0, hst1⟩ := inB_true.1 F2.out
        obtain ⟨st, rfl⟩ := Int.eq_ofNat_of_zero_le hst0
        have hst8 : st < 8 := by omega
        have hst8z : (st : Int) < 8 := by omega
        have HL := Aside0.mk hl
        have d0 := (H5.out.cell (p := ⟨w.heap.size + 1, 0, none⟩) (by simp; omega)).trans q0.out
        have d1 := (H5.out.cell (p := ⟨w.heap.size + 1, 1, none⟩) (by simp; omega)).trans q1.out
        clear hn hina hl hx2 hx3 hst0 hst1
        simp only [codeB, if_true]
        go_wp2_with fail
        refine (l07Behind_is x0 x1 (-1) _ (HN.out.below H5.out) HL.out hlen ht0 ht1 hx0 hx1 (by omega) (by omega)).mono ?_
        rintro e w6 ⟨gb, hgb, G, lG, hRG, hG, rfl, hb2⟩
        rw [but_none HL.out] at hG
        have HE : Aside0 (∀ h, h < 301 → G.getD (st * 301 + h) false = arrB t l x0 x1 st h) := ⟨fun h hh => by rw [← arrB_eq HL.out hG hst8 hh]; rfl⟩
        have HRG := Aside0.mk hRG
        have HO7 : Aside0 (w6.ownsRow w.heap.size 2 1 (.slice (some ⟨w.heap.size + 1 + 1, 0, none⟩) 0 0) ([] : List Int).length (nums .i64 [])) := ⟨pw_own_below HO6.out hb2⟩
        have hb3 : Aside0 (Below w.heap.size w w6) := ⟨hb6.out.trans (hb2.mono hb6.out.size)⟩
        have hg2 : w.heap.size + 1 + 1 < gb := by have := H5.out.size; omega
        clear hb2 hG hRG d0 d1
        go_wp2
        go_loopg [8, 11] 301 (fun gg v8 v11 wr => ∃ (kk : Nat) (xs : List Int), kk ≤ 301 ∧ 301 - kk ≤ gg ∧ v11 = .int .i64 kk ∧ xs.length ≤ kk ∧ Aside0 (wr.ownsRow w.heap.size 2 1 v8 xs.length (nums .i64 xs)) ∧ Aside0 (Below w.heap.size w wr) ∧ Aside0 (RowAt wr gb 109 G) ∧ (v8.ownBlock ≠ some gb) ∧ Aside0 (xs ++ hoursFrom (fun h => arrB t l x0 x1 st h) (301 - kk) kk = hoursFrom (fun h => arrB t l x0 x1 st h) 301 0))
        case atStart => exact ⟨0, [], Nat.zero_le _, by omega, rfl, Nat.le_refl _, HO7, hb3, HRG, by simp [Value.ownBlock]; omega, ⟨rfl⟩⟩
        case round =>
          obtain ⟨kk, xs, hkk, hg, rfl, hxs, HO, BW, HG, hnb, HA⟩ := hrel
          by_cases hlt : kk < 301
          · have hltz : (kk : Int) ≤ 300 := by omega
            have hltz2 : (kk : Int) < 301 := by omega
            have hcell := HG.out.cell (st * 301 + kk) (by omega)
            rw [HE.out kk hlt] at hcell
            have hgl := HG.out.lt
            have hd : hoursFrom (fun h => arrB t l x0 x1 st h) (301 - kk) kk = if arrB t l x0 x1 st kk = true then (kk : Int) :: hoursFrom (fun h => arrB t l x0 x1 st h) (301 - (kk + 1)) (kk + 1) else hoursFrom (fun h => arrB t l x0 x1 st h) (301 - (kk + 1)) (kk + 1) := by
              rw [show 301 - kk = (301 - (kk + 1)) + 1 by omega, hoursFrom]
            cases hq : arrB t l x0 x1 st kk with
            | false =>
              rw [hq] at hcell
              have HD2 : Aside0 (xs ++ hoursFrom (fun h => arrB t l x0 x1 st h) (301 - (kk + 1)) (kk + 1) = hoursFrom (fun h => arrB t l x0 x1 st h) 301 0) := ⟨by rw [← HA.out, hd, if_neg (by simp [hq])]⟩
              clear hq hd HA
              go_wp2
              go_roundg (301 - (kk + 1))
              case measure => omega
              case rel => exact ⟨kk + 1, xs, by omega, by omega, by go_num, by omega, HO, BW, HG, hnb, HD2⟩
            | true =>
              rw [hq] at hcell
              have HD2 : Aside0 ((xs ++ [(kk : Int)]) ++ hoursFrom (fun h => arrB t l x0 x1 st h) (301 - (kk + 1)) (kk + 1) = hoursFrom (fun h => arrB t l x0 x1 st h) 301 0) := ⟨by rw [← HA.out, hd, if_pos hq]; simp⟩
              clear hq hd HA
              go_wp2_with (at_builtin; refine print_append_num (w0 := w) w.heap.size rfl (.tmp 37) (.tmp 39) 34 2 .i64 8 rfl Try.underlying34 infoI64 (by omega) _ xs (kk : Int) rfl (by go_simp) HO.out BW.out BW.out.size (by omega) ?_; intro v1 w3 hown1 hB1 hg1 hat1)
              have HO1 := Aside0.mk hown1
              have HB1 := Aside0.mk hB1
              have HG1 : Aside0 (RowAt w3 gb 109 G) := ⟨⟨(hg1.block gb hgl (fun h => hnb h.symm)).trans HG.out.out⟩⟩
              have hnb1 : v1.ownBlock ≠ some gb := by
                rcases hat1 with h | ⟨b, h, hb⟩
                · rw [h]
                  exact hnb
                · rw [h]
                  intro h2
                  injection h2 with h2
                  omega
              clear hown1 hB1 hg1 hat1 hnb
              go_wp2
              go_roundg (301 - (kk + 1))
              case measure => omega
              case rel => exact ⟨kk + 1, xs ++ [(kk : Int)], by omega, by omega, by go_num, by simp; omega, HO1, HB1, HG1, hnb1, HD2⟩
          · have hltz : ¬ (kk : Int) ≤ 300 := by omega
            have hk : kk = 301 := by omega
            have HA2 : Aside0 (xs = hoursFrom (fun h => arrB t l x0 x1 st h) 301 0) := ⟨by rw [← HA.out, hk]; simp [hoursFrom]⟩
            clear HA hk
            go_wp2
            go_ret2
            rw [ER.out]
            refine ⟨_, rfl, ?_, BW.out⟩
            simp only [Int.toNat_natCast]
            rw [← HA2.out]
            exact Kd.R_of_own HO.out (fun _ _ => trivial)
def spec_ArrivalsAt.f (a0_0 : Int) (a0_1 : Int) (l0_2 : List (S44)) (a1_0 : Int) (a1_1 : Int) (a2 : Int) : Option (List Int × Int) := if okNet a0_0 a0_1 l0_2 = true ∧ okScan ⟨a1_0, a1_1⟩ = true then some (arrRes a0_0 a0_1 l0_2 ⟨a1_0, a1_1⟩ a2) else none
theorem spec_ArrivalsAt.calls (a0_0 : Int) (a0_1 : Int) (A0_2 : Option Addr) (c0_2 : Nat) (l0_2 : List (S44)) (a1_0 : Int) (a1_1 : Int) (a2 : Int) (r1 : List Int) (r2 : Int) (w : World) (hr0_2 : Kd.C k44 w A0_2 l0_2.length l0_2) (hc0_2 : l0_2.length ≤ c0_2) (h : spec_ArrivalsAt.f a0_0 a0_1 l0_2 a1_0 a1_1 a2 = some (r1, r2)) :
    Calls Try.prog 13 #[.agg #[.int .i8 a0_0, .int .i16 a0_1, .slice A0_2 l0_2.length c0_2], .agg #[.int .i8 a1_0, .int .i16 a1_1], .int .i64 a2] w fun e w' => ∃ v0_ : Value, e = .returned (.tuple #[v0_, .int .i64 r2]) ∧ Kd.R (Kd.int .i64) 2 w' w.heap.size (fun _ => True) v0_ r1 ∧ Below w.heap.size w w' := by
  unfold spec_ArrivalsAt.f at h
  split at h
  · injection h with h
    have h1 : (arrRes a0_0 a0_1 l0_2 ⟨a1_0, a1_1⟩ a2).1 = r1 := by rw [h]
    have h2 : (arrRes a0_0 a0_1 l0_2 ⟨a1_0, a1_1⟩ a2).2 = r2 := by rw [h]
    rw [← h1, ← h2]
    rename_i hh
    exact sArrivalsAt_any _ _ _ _ _ _ _ _ w hr0_2 hc0_2 hh.1 hh.2
  · cases h
end Go.Proofs.Yticfecncdpdanaa.Q
/- slices.Index at a slice of an array of bools. -/
set_option linter.unusedVariables false
set_option linter.unusedSimpArgs false
namespace Go.Proofs.Yticfecncdpdanaa.Q
open Go.RowKit Go.Proofs.YticfecncdpdanaaW.PrintWords Go.Proofs.YticfecncdpdanaaW.PrintLast Go.Proofs.YticfecncdpdanaaW.PrintMore
/-- The index, from index i on, of the first true; -1 for none. -/
def trueFrom : List Bool → Int → Int
  | [], _ => -1
  | b :: r, i => if b = true then i else trueFrom r (i + 1)
set_option maxHeartbeats 1000000 in
theorem indexB_is (g n c : Nat) (T : TypeId) (G : List Bool) (hn : G.length = n) (hb : n ≤ 1048576) (w : World) (hr : RowAt w g T G) :
    Calls Try.prog 79 #[.slice (some ⟨g, 0, none⟩) n c, .bool true] w fun e w' => e = .returned (.int .i64 (trueFrom G 0)) ∧ w = w' := by
  have HR := Aside0.mk hr
  clear hr
  go_enter Try.func79, Try.ntmps79
  go_wp2
  go_loopg [8] n (fun gg v8 wr => ∃ (kk : Nat), kk ≤ n ∧ n - kk ≤ gg ∧ v8 = .int .i64 kk ∧ Aside0 (trueFrom (G.drop kk) kk = trueFrom G 0) ∧ wr = w)
  case atStart => exact ⟨0, by omega, by omega, rfl, ⟨rfl⟩, rfl⟩
  case round =>
    obtain ⟨kk, hkk, hg, rfl, HA, rfl⟩ := hrel
    by_cases hlt : kk < n
    · have hltz : (kk : Int) < (n : Int) := by omega
      have hx0 := HR.out.cell kk (by omega)
      have hd := drop_cons_of' G false kk (by omega)
      cases hq : G.getD kk false with
      | false =>
        rw [hq] at hx0 hd
        have HD : Aside0 (trueFrom (G.drop (kk + 1)) ((kk : Int) + 1) = trueFrom G 0) := ⟨by rw [← HA.out, hd, trueFrom, if_neg (by simp)]⟩
        clear hd HA hq
        go_wp2
        go_roundg (n - (kk + 1))
        case measure => omega
        case rel => exact ⟨kk + 1, by omega, by omega, by go_num, HD, rfl⟩
      | true =>
        rw [hq] at hx0 hd
        have HD : Aside0 ((kk : Int) = trueFrom G 0) := ⟨by rw [← HA.out, hd, trueFrom, if_pos rfl]⟩
        clear hd HA hq
        go_wp2
        go_ret
        exact ⟨by rw [← HD.out]; rfl, rfl⟩
    · have hltz : ¬ (kk : Int) < (n : Int) := by omega
      have HD : Aside0 (trueFrom G 0 = -1) := ⟨by rw [← HA.out, List.drop_of_length_le (by omega)]; rfl⟩
      go_wp2
      go_ret
      exact ⟨by rw [HD.out]; rfl, rfl⟩
end Go.Proofs.Yticfecncdpdanaa.Q
/- impl's EarliestAt. -/
set_option linter.unusedVariables false
set_option linter.unusedSimpArgs false
namespace Go.Proofs.Yticfecncdpdanaa.Q
open Go.RowKit Go.Proofs.YticfecncdpdanaaW.PrintWords Go.Proofs.YticfecncdpdanaaW.PrintLast Go.Proofs.YticfecncdpdanaaW.PrintMore
/-- The first hour, of n from h on, at which p holds; -1 for none. -/
def firstH (p : Nat → Bool) : Nat → Nat → Int
  | 0, _ => -1
  | n + 1, h => if p h = true then (h : Int) else firstH p n (h + 1)
theorem trueFrom_eq (p : Nat → Bool) : ∀ (P : List Bool) (h : Nat), (∀ i, i < P.length → P.getD i false = p (h + i)) → trueFrom P h = firstH p P.length h
  | [], h, _ => rfl
  | b :: r, h, hp => by
    have h0 := hp 0 (by simp)
    simp at h0
    subst h0
    simp only [trueFrom, List.length_cons, firstH]
    split
    · rfl
    · have := trueFrom_eq p r (h + 1) (fun i hi => by have := hp (i + 1) (by simp; omega); simp at this; rw [List.getD_eq_getElem?_getD, this]; congr 1; omega)
      rw [← this]
      congr 1
def earl (t : Int) (l : List S44) (a0 h0 st : Nat) : Int := if st = a0 then (h0 : Int) else firstH (fun h => arrB t l a0 h0 st h) 301 0
def earlRes (s t : Int) (l : List S44) (a : S31) : List Int × Int := coded (codeB (netB s t l) (scanIn s a)) [] ((List.range s.toNat).map (earl t l a.f0.toNat a.f1.toNat))
attribute [local go_sem] zcH noHours_length setRow_alloc_at setRow_alloc_past bcells_set bcells_size List.length_set
def impl_EarliestAt.f (a0_0 : Int) (a0_1 : Int) (l0_2 : List (S44)) (a1_0 : Int) (a1_1 : Int) : Option (List Int × Int) := if okNet a0_0 a0_1 l0_2 = true ∧ okScan ⟨a1_0, a1_1⟩ = true then some (earlRes a0_0 a0_1 l0_2 ⟨a1_0, a1_1⟩) else none
end Go.Proofs.Yticfecncdpdanaa.Q
/- spec's EarliestAt (so far: the plain law of its least hours). -/
set_option linter.unusedVariables false
set_option linter.unusedSimpArgs false
namespace Go.Proofs.Yticfecncdpdanaa.Q
open Go.RowKit Go.Proofs.YticfecncdpdanaaW.PrintWords Go.Proofs.YticfecncdpdanaaW.PrintLast Go.Proofs.YticfecncdpdanaaW.PrintMore
theorem firstH_congr {p q : Nat → Bool} : ∀ (n h : Nat), (∀ i, h ≤ i → i < h + n → p i = q i) → firstH p n h = firstH q n h
  | 0, _, _ => rfl
  | n + 1, h, e => by
    simp only [firstH, e h (Nat.le_refl _) (by omega)]
    rw [firstH_congr n (h + 1) (fun i h1 h2 => e i (by omega) (by omega))]
theorem firstH_at {p : Nat → Bool} : ∀ (n h k : Nat), h ≤ k → k < h + n → p k = true → (∀ i, h ≤ i → i < k → p i = false) → firstH p n h = (k : Int)
  | 0, h, k, h1, h2, _, _ => by omega
  | n + 1, h, k, h1, h2, hk, hn => by
    unfold firstH
    by_cases e : h = k
    · subst e
      rw [if_pos hk]
    · rw [if_neg (by rw [hn h (Nat.le_refl _) (by omega)]; simp)]
      exact firstH_at n (h + 1) k (by omega) (by omega) hk (fun i h3 h4 => hn i (by omega) h4)
/-- What spec looks at: the arrivals and the scan itself. -/
theorem earl_eq {t : Int} {l : List S44} (hl : ∀ x ∈ l, laneV x) (a0 h0 st : Nat) (hh : h0 < 301) : firstH (fun h => arrB t l a0 h0 st h || (decide (h = h0) && decide (st = a0))) 301 0 = earl t l a0 h0 st := by
  unfold earl
  split
  · rename_i e
    refine firstH_at 301 0 h0 (by omega) (by omega) (by simp [e]) (fun i _ h2 => ?_)
    have h3 : arrB t l a0 h0 st i = false := by
      cases h4 : arrB t l a0 h0 st i with
      | false => rfl
      | true =>
        have := (((arrB_iff hl a0 h0 st i).1 h4).gt hl).1
        omega
    rw [h3, decide_eq_false (by omega : ¬ i = h0)]
    rfl
  · rename_i e
    exact firstH_congr 301 0 (fun i _ _ => by simp [e])
set_option maxHeartbeats 4000000 in
set_option maxRecDepth 100000 in
theorem sEarliestAt_any (s t : Int) (A : Option Addr) (c : Nat) (l : List S44) (a0 a1 : Int) (w : World) (hr : Kd.C k44 w A l.length l) (hc : l.length ≤ c) (hok : okNet s t l = true) (hoa : okScan ⟨a0, a1⟩ = true) :
    Calls Try.prog 27 #[.agg #[.int .i8 s, .int .i16 t, .slice A l.length c], .agg #[.int .i8 a0, .int .i16 a1]] w fun e w' => ∃ v : Value, e = .returned (.tuple #[v, .int .i64 (earlRes s t l ⟨a0, a1⟩).2]) ∧ Kd.R (Kd.int .i64) 2 w' w.heap.size (fun _ => True) v (earlRes s t l ⟨a0, a1⟩).1 ∧ Below w.heap.size w w' := by
  have HN := Aside0.mk (NetAt.new (s := s) (t := t) hr hc 28)
  have OK := Aside0.mk hok
  have HOA := Aside0.mk hoa
  clear hr hok hoa
  go_enter Try.func27, Try.ntmps27
  go_wp2_with fail
  have HBW : Aside0 (Below w.heap.size w (((w.alloc (.cells #[.int .i8 s, .int .i16 t, .slice A l.length c] 28)).alloc (.cells #[.int .i8 a0, .int .i16 a1] 31)).alloc (.cells #[] 2))) := ⟨(((Below.refl _ _).alloc (Nat.le_refl _) _).alloc (by simp) _).alloc (by simp; omega) _⟩
  have HVW : Aside0 (w.heap.size ≤ (((w.alloc (.cells #[.int .i8 s, .int .i16 t, .slice A l.length c] 28)).alloc (.cells #[.int .i8 a0, .int .i16 a1] 31)).alloc (.cells #[] 2)).heap.size) := ⟨by simp; omega⟩
  have HN := Aside0.mk ((HN.out.alloc (.cells #[.int .i8 a0, .int .i16 a1] 31)).alloc (.cells #[] 2))
  have HO0 : Aside0 ((((w.alloc (.cells #[.int .i8 s, .int .i16 t, .slice A l.length c] 28)).alloc (.cells #[.int .i8 a0, .int .i16 a1] 31)).alloc (.cells #[] 2)).ownsRow w.heap.size 2 1 (.slice (some ⟨w.heap.size + 1 + 1, 0, none⟩) 0 0) ([] : List Int).length (nums .i64 [])) := ⟨own_lit0 ((w.alloc (.cells #[.int .i8 s, .int .i16 t, .slice A l.length c] 28)).alloc (.cells #[.int .i8 a0, .int .i16 a1] 31)) w.heap.size 2 (w.heap.size + 1 + 1) (by simp) (by simp; omega)⟩
  have HO1 : Aside0 ((((w.alloc (.cells #[.int .i8 s, .int .i16 t, .slice A l.length c] 28)).alloc (.cells #[.int .i8 a0, .int .i16 a1] 31)).alloc (.cells #[] 2)).ownsRow (w.heap.size + 1 + 1) 2 1 (.slice (some ⟨w.heap.size + 1 + 1, 0, none⟩) 0 0) ([] : List Int).length (nums .i64 [])) := ⟨own_lit0 ((w.alloc (.cells #[.int .i8 s, .int .i16 t, .slice A l.length c] 28)).alloc (.cells #[.int .i8 a0, .int .i16 a1] 31)) (w.heap.size + 1 + 1) 2 (w.heap.size + 1 + 1) (by simp) (by simp)⟩
  have q0 : Aside0 ((((w.alloc (.cells #[.int .i8 s, .int .i16 t, .slice A l.length c] 28)).alloc (.cells #[.int .i8 a0, .int .i16 a1] 31)).alloc (.cells #[] 2)).cell? ⟨w.heap.size + 1, 0, none⟩ = some (.int .i8 a0)) := ⟨by go_simp⟩
  have q1 : Aside0 ((((w.alloc (.cells #[.int .i8 s, .int .i16 t, .slice A l.length c] 28)).alloc (.cells #[.int .i8 a0, .int .i16 a1] 31)).alloc (.cells #[] 2)).cell? ⟨w.heap.size + 1, 1, none⟩ = some (.int .i16 a1)) := ⟨by go_simp⟩
  have q2 : Aside0 ((((w.alloc (.cells #[.int .i8 s, .int .i16 t, .slice A l.length c] 28)).alloc (.cells #[.int .i8 a0, .int .i16 a1] 31)).alloc (.cells #[] 2)).cell? ⟨w.heap.size, 0, none⟩ = some (.int .i8 s)) := ⟨by go_simp⟩
  have hz : w.heap.size + 1 + 1 < (((w.alloc (.cells #[.int .i8 s, .int .i16 t, .slice A l.length c] 28)).alloc (.cells #[.int .i8 a0, .int .i16 a1] 31)).alloc (.cells #[] 2)).heap.size := by simp
  generalize (((w.alloc (.cells #[.int .i8 s, .int .i16 t, .slice A l.length c] 28)).alloc (.cells #[.int .i8 a0, .int .i16 a1] 31)).alloc (.cells #[] 2)) = V at *
  refine (l07Scan_at HN.out OK.out a0 a1 HOA.out).mono ?_
  rintro e w1 ⟨rfl, hb⟩
  have H1 := Aside0.mk hb
  clear hb
  go_wp2_with fail
  refine (l07Asked_at (HN.out.below H1.out) OK.out (scanIn s ⟨a0, a1⟩)).mono ?_
  rintro e w5 ⟨rfl, hb5⟩
  have H5 := Aside0.mk (H1.out.trans (hb5.mono H1.out.size))
  have hb6 := Aside0.mk (HBW.out.trans (H5.out.mono HVW.out))
  have HO6 := Aside0.mk (pw_own_below HO0.out H5.out)
  clear hb5
  cases hn : netB s t l with
  | false =>
    have ER : Aside0 (earlRes s t l ⟨a0, a1⟩ = ([], 1)) := ⟨by unfold earlRes; rw [hn]; rfl⟩
    clear hn
    simp only [codeB, Bool.false_eq_true, if_false]
    go_wp2
    go_ret2
    rw [ER.out]
    exact ⟨_, rfl, Kd.R_of_own HO6.out (fun _ _ => trivial), hb6.out⟩
  | true =>
    cases h1 : scanIn s ⟨a0, a1⟩ with
    | false =>
      have ER : Aside0 (earlRes s t l ⟨a0, a1⟩ = ([], 2)) := ⟨by unfold earlRes; rw [hn, h1]; rfl⟩
      clear hn h1
      simp only [codeB, Bool.false_eq_true, if_false, if_true]
      go_wp2
      go_ret2
      rw [ER.out]
      exact ⟨_, rfl, Kd.R_of_own HO6.out (fun _ _ => trivial), hb6.out⟩
    | true =>
      have ER : Aside0 (earlRes s t l ⟨a0, a1⟩ = ((List.range s.toNat).map (earl t l a0.toNat a1.toNat), 0)) := ⟨by unfold earlRes; rw [hn, h1]; rfl⟩
      obtain ⟨hl, hs1, hs8, ht0, ht1⟩ := laneV_of hn
      have hlen := netB_len hn
      have hina := h1
      unfold scanIn at hina
      rw [Bool.and_eq_true] at hina
      obtain ⟨x0, x1, hx, hx0, hx1, hx2, hx3⟩ := scansIn_nat hs8 hina
      injection hx with e1 e2
      subst e1 e2
      have HL := Aside0.mk hl
      obtain ⟨sn, rfl⟩ := Int.eq_ofNat_of_zero_le (show 0 ≤ s by omega)
      have d0 := (H5.out.cell (p := ⟨w.heap.size + 1, 0, none⟩) (by simp; omega)).trans q0.out
      have d1 := (H5.out.cell (p := ⟨w.heap.size + 1, 1, none⟩) (by simp; omega)).trans q1.out
      clear hn h1 hina hl hx2 hx3
      simp only [codeB, if_true]
      go_wp2_with fail
      refine (l07Behind_is x0 x1 (-1) _ (HN.out.below H5.out) HL.out hlen ht0 ht1 hx0 hx1 (by omega) (by omega)).mono ?_
      rintro e w6 ⟨gb, hgb, G, lG, hRG, hG, rfl, hb2⟩
      rw [but_none HL.out] at hG
      have HE : Aside0 (∀ st h, st < 8 → h < 301 → G.getD (st * 301 + h) false = arrB t l x0 x1 st h) := ⟨fun st h hs hh => by rw [← arrB_eq HL.out hG hs hh]; rfl⟩
      have HRG := Aside0.mk hRG
      have HB6 : Aside0 (Below V.heap.size V w6) := ⟨H5.out.trans (hb2.mono H5.out.size)⟩
      have HO7 : Aside0 (w6.ownsRow (w.heap.size + 1 + 1) 2 1 (.slice (some ⟨w.heap.size + 1 + 1, 0, none⟩) 0 0) ([] : List Int).length (nums .i64 [])) := ⟨pw_own_below (pw_own_below HO1.out H5.out) hb2⟩
      have hg2 : w.heap.size + 1 + 1 < gb := by have := H5.out.size; omega
      have hsn8 : sn ≤ 8 := by omega
      have HB7 : Aside0 (Below (w.heap.size + 1 + 1) V w6) := ⟨HB6.out.mono (by omega)⟩
      clear hb2 hG hRG d0 d1
      go_wp2
      go_loopg [6, 9] sn (fun gg v6 v9 wr => ∃ (st : Nat) (xs : List Int), st ≤ sn ∧ sn - st ≤ gg ∧ v9 = .int .i64 st ∧ Aside0 (wr.ownsRow (w.heap.size + 1 + 1) 2 1 v6 xs.length (nums .i64 xs)) ∧ Aside0 (Below (w.heap.size + 1 + 1) V wr) ∧ Aside0 (RowAt wr gb 109 G) ∧ (v6.ownBlock ≠ some gb) ∧ Aside0 (xs = (List.range st).map (earl t l x0 x1)))
      case atStart => exact ⟨0, [], Nat.zero_le _, by omega, rfl, HO7, HB7, HRG, by simp [Value.ownBlock]; omega, ⟨by simp⟩⟩
      case round =>
        obtain ⟨st, xs, hst, hg, rfl, HO, BW, HG, hnb, HA⟩ := hrel
        have d0 := (BW.out.cell (p := ⟨w.heap.size + 1, 0, none⟩) (by simp)).trans q0.out
        have d1 := (BW.out.cell (p := ⟨w.heap.size + 1, 1, none⟩) (by simp)).trans q1.out
        have d2 := (BW.out.cell (p := ⟨w.heap.size, 0, none⟩) (by simp; omega)).trans q2.out
        by_cases hlt : st < sn
        · have hltz : (st : Int) < (sn : Int) := by omega
          go_wp2
          obtain ⟨wo, hwo⟩ : ∃ wo : World, wo = wr := ⟨_, rfl⟩
          subst hwo
          go_loopg [10, 11] 301 (fun gg v10 v11 wq => ∃ (m : Nat), m ≤ 301 ∧ m ≤ gg ∧ v11 = .int .i64 ((m : Int) - 1) ∧ v10 = .int .i64 (firstH (fun h => arrB t l x0 x1 st h || (decide (h = x1) && decide (st = x0))) (301 - m) m) ∧ wq = wo)
          case atStart => exact ⟨301, by omega, by omega, rfl, rfl, rfl⟩
          case round =>
            obtain ⟨m, hm, hgm, rfl, rfl, rfl⟩ := hrel
            by_cases hm0 : m = 0
            · subst hm0
              have HA2 : Aside0 (xs ++ [firstH (fun h => arrB t l x0 x1 st h || (decide (h = x1) && decide (st = x0))) 301 0] = (List.range (st + 1)).map (earl t l x0 x1)) := ⟨by rw [earl_eq HL.out x0 x1 st hx1, HA.out, List.range_succ]; simp⟩
              have hxl : xs.length ≤ 8 := by rw [HA.out, List.length_map, List.length_range]; omega
              have hgl := HG.out.lt
              have hmz : ¬ (0 : Int) ≤ -1 := by omega
              clear HA
              go_wp2_with (at_builtin; refine print_append_num (w0 := V) (w.heap.size + 1 + 1) rfl (.tmp 55) (.tmp 57) 34 2 .i64 8 rfl Try.underlying34 infoI64 (by omega) _ xs (firstH (fun h => arrB t l x0 x1 st h || (decide (h = x1) && decide (st = x0))) 301 0) rfl (by go_simp) HO.out BW.out (by have := BW.out.size; omega) (by omega) ?_; intro v1 w3 hown1 hB1 hg1 hat1)
              have HO1' := Aside0.mk hown1
              have HB1 := Aside0.mk hB1
              have HG1 : Aside0 (RowAt w3 gb 109 G) := ⟨⟨(hg1.block gb hgl (fun h => hnb h.symm)).trans HG.out.out⟩⟩
              have hnb1 : v1.ownBlock ≠ some gb := by
                rcases hat1 with h | ⟨b, h, hb⟩
                · rw [h]
                  exact hnb
                · rw [h]
                  intro h2
                  injection h2 with h2
                  omega
              clear hown1 hB1 hg1 hat1 hnb
              go_wp2
              go_roundg (sn - (st + 1))
              case measure => omega
              case rel => exact ⟨st + 1, xs ++ [firstH (fun h => arrB t l x0 x1 st h || (decide (h = x1) && decide (st = x0))) 301 0], by omega, by omega, by go_num, HO1', HB1, HG1, hnb1, HA2⟩
            · obtain ⟨k, rfl⟩ : ∃ k, m = k + 1 := ⟨m - 1, by omega⟩
              have hkz : ((k + 1 : Nat) : Int) - 1 = (k : Int) := by omega
              have hk0 : (0 : Int) ≤ (k : Int) := by omega
              have hk1 : (k : Int) < 301 := by omega
              have hs8z : (st : Int) < 8 := by omega
              have hcell := HG.out.cell (st * 301 + k) (by omega)
              rw [HE.out st k (by omega) (by omega)] at hcell
              have hd : firstH (fun h => arrB t l x0 x1 st h || (decide (h = x1) && decide (st = x0))) (301 - k) k = if (arrB t l x0 x1 st k || (decide (k = x1) && decide (st = x0))) = true then (k : Int) else firstH (fun h => arrB t l x0 x1 st h || (decide (h = x1) && decide (st = x0))) (301 - (k + 1)) (k + 1) := by
                rw [show 301 - k = (301 - (k + 1)) + 1 by omega, firstH]
              rw [hkz]
              cases hq : arrB t l x0 x1 st k with
              | true =>
                rw [hq] at hcell hd
                have hd2 : Aside0 (firstH (fun h => arrB t l x0 x1 st h || (decide (h = x1) && decide (st = x0))) (301 - k) k = (k : Int)) := ⟨by rw [hd]; simp⟩
                clear hd hq
                go_wp2
                go_roundg k
                case measure => omega
                case rel => exact ⟨k, by omega, by omega, by go_num, by rw [hd2.out], rfl⟩
              | false =>
                rw [hq] at hcell hd
                clear hq
                by_cases hkx : k = x1
                · have g1 : ((k : Int) == (x1 : Int)) = true := by simp [hkx]
                  by_cases hsx : st = x0
                  · have g2 : ((st : Int) == (x0 : Int)) = true := by simp [hsx]
                    have hd2 : Aside0 (firstH (fun h => arrB t l x0 x1 st h || (decide (h = x1) && decide (st = x0))) (301 - k) k = (k : Int)) := ⟨by rw [hd]; simp [hkx, hsx]⟩
                    clear hd hkx hsx
                    go_wp2
                    go_roundg k
                    case measure => omega
                    case rel => exact ⟨k, by omega, by omega, by go_num, by rw [hd2.out], rfl⟩
                  · have g2 : ((st : Int) == (x0 : Int)) = false := beq_false_of_ne (by omega)
                    have hd2 : Aside0 (firstH (fun h => arrB t l x0 x1 st h || (decide (h = x1) && decide (st = x0))) (301 - k) k = firstH (fun h => arrB t l x0 x1 st h || (decide (h = x1) && decide (st = x0))) (301 - (k + 1)) (k + 1)) := ⟨by rw [hd]; simp [hsx]⟩
                    clear hd hkx hsx
                    go_wp2
                    go_roundg k
                    case measure => omega
                    case rel => exact ⟨k, by omega, by omega, by go_num, by rw [hd2.out], rfl⟩
                · have g1 : ((k : Int) == (x1 : Int)) = false := beq_false_of_ne (by omega)
                  have hd2 : Aside0 (firstH (fun h => arrB t l x0 x1 st h || (decide (h = x1) && decide (st = x0))) (301 - k) k = firstH (fun h => arrB t l x0 x1 st h || (decide (h = x1) && decide (st = x0))) (301 - (k + 1)) (k + 1)) := ⟨by rw [hd]; simp [hkx]⟩
                  clear hd hkx
                  go_wp2
                  go_roundg k
                  case measure => omega
                  case rel => exact ⟨k, by omega, by omega, by go_num, by rw [hd2.out], rfl⟩
        · have hltz : ¬ (st : Int) < (sn : Int) := by omega
          have hk : st = sn := by omega
          have HA2 : Aside0 (xs = (List.range sn).map (earl t l x0 x1)) := ⟨by rw [HA.out, hk]⟩
          clear HA hk
          go_wp2
          go_ret2
          rw [ER.out]
          refine ⟨_, rfl, ?_, HBW.out.trans (BW.out.mono (by omega))⟩
          simp only [Int.toNat_natCast]
          rw [← HA2.out]
          exact Kd.R_lower (Kd.R_of_own HO.out (fun _ _ => trivial)) (by omega)
def spec_EarliestAt.f (a0_0 : Int) (a0_1 : Int) (l0_2 : List (S44)) (a1_0 : Int) (a1_1 : Int) : Option (List Int × Int) := if okNet a0_0 a0_1 l0_2 = true ∧ okScan ⟨a1_0, a1_1⟩ = true then some (earlRes a0_0 a0_1 l0_2 ⟨a1_0, a1_1⟩) else none
theorem spec_EarliestAt.calls (a0_0 : Int) (a0_1 : Int) (A0_2 : Option Addr) (c0_2 : Nat) (l0_2 : List (S44)) (a1_0 : Int) (a1_1 : Int) (r1 : List Int) (r2 : Int) (w : World) (hr0_2 : Kd.C k44 w A0_2 l0_2.length l0_2) (hc0_2 : l0_2.length ≤ c0_2) (h : spec_EarliestAt.f a0_0 a0_1 l0_2 a1_0 a1_1 = some (r1, r2)) :
    Calls Try.prog 27 #[.agg #[.int .i8 a0_0, .int .i16 a0_1, .slice A0_2 l0_2.length c0_2], .agg #[.int .i8 a1_0, .int .i16 a1_1]] w fun e w' => ∃ v0_ : Value, e = .returned (.tuple #[v0_, .int .i64 r2]) ∧ Kd.R (Kd.int .i64) 2 w' w.heap.size (fun _ => True) v0_ r1 ∧ Below w.heap.size w w' := by
  unfold spec_EarliestAt.f at h
  split at h
  · injection h with h
    have h1 : (earlRes a0_0 a0_1 l0_2 ⟨a1_0, a1_1⟩).1 = r1 := by rw [h]
    have h2 : (earlRes a0_0 a0_1 l0_2 ⟨a1_0, a1_1⟩).2 = r2 := by rw [h]
    rw [← h1, ← h2]
    rename_i hh
    exact sEarliestAt_any _ _ _ _ _ _ _ w hr0_2 hc0_2 hh.1 hh.2
  · cases h
end Go.Proofs.Yticfecncdpdanaa.Q
/- The closure of impl's WhereAt, and what WhereAt answers. -/
set_option linter.unusedVariables false
set_option linter.unusedSimpArgs false
namespace Go.Proofs.Yticfecncdpdanaa.Q
open Go.RowKit Go.Proofs.YticfecncdpdanaaW.PrintWords Go.Proofs.YticfecncdpdanaaW.PrintLast Go.Proofs.YticfecncdpdanaaW.PrintMore
def selL (p : Nat → Bool) (n : Nat) : List Int := ((List.range n).filter p).map fun (k : Nat) => (k : Int)
theorem selL_succ (p : Nat → Bool) (n : Nat) : selL p (n + 1) = if p n = true then selL p n ++ [(n : Int)] else selL p n := by
  unfold selL
  rw [List.range_succ, List.filter_append]
  split
  · rename_i h; simp [h]
  · rename_i h; simp [h]
theorem selL_length (p : Nat → Bool) (n : Nat) : (selL p n).length ≤ n := by
  unfold selL
  rw [List.length_map]
  have := List.length_filter_le p (List.range n)
  simpa using this
/-- Whether p holds of an hour from lo to hi. -/
def someH (p : Nat → Bool) (lo hi : Int) : Bool := decide (0 ≤ firstH p (min hi 300 + 1 - max lo 0).toNat (max lo 0).toNat)
theorem fH_congr (p q : Nat → Bool) : ∀ (n k : Nat), (∀ h, k ≤ h → h < k + n → p h = q h) → firstH p n k = firstH q n k
  | 0, k, _ => rfl
  | n + 1, k, h => by
    rw [firstH, firstH, h k (Nat.le_refl _) (by omega), fH_congr p q n (k + 1) (fun h' h1 h2 => h h' (by omega) (by omega))]
theorem fH_iff (p : Nat → Bool) : ∀ (n k : Nat), 0 ≤ firstH p n k ↔ ∃ h, k ≤ h ∧ h < k + n ∧ p h = true
  | 0, k => by
    unfold firstH
    constructor
    · intro h; omega
    · rintro ⟨h, h1, h2, _⟩; omega
  | n + 1, k => by
    unfold firstH
    by_cases hp : p k = true
    · rw [if_pos hp]
      exact ⟨fun _ => ⟨k, Nat.le_refl _, by omega, hp⟩, fun _ => by omega⟩
    · rw [if_neg hp, fH_iff p n (k + 1)]
      constructor
      · rintro ⟨h, h1, h2, h3⟩
        exact ⟨h, by omega, by omega, h3⟩
      · rintro ⟨h, h1, h2, h3⟩
        rcases Nat.eq_or_lt_of_le h1 with e | e
        · subst e
          exact absurd h3 hp
        · exact ⟨h, by omega, by omega, h3⟩
theorem Two.grew_l {k : IntKind} {e : TypeId} {base : Nat} {w0 w w1 : World} {v v' v1 : Value} {xs ys : List Int} {y : Int} (HT : Two k e base w0 w v v' xs ys) (hown : w1.ownsRow base e 1 v1 (xs ++ [y]).length (nums k (xs ++ [y]))) (hB : Below base w0 w1) (hg : w.grownBy w1 v.ownBlock) (hat : v1.ownBlock = v.ownBlock ∨ ∃ b, v1.ownBlock = some b ∧ w.heap.size ≤ b) : Two k e base w0 w1 v1 v' (xs ++ [y]) ys := by
  refine ⟨hown, HT.r.kept hg ?_, ?_, hB, Nat.le_trans HT.size hg.size⟩
  · cases hv : v.ownBlock with
    | none => cases v'.ownBlock <;> simp
    | some j => exact .inr (HT.ne j hv)
  · intro j hj
    rcases hat with hat | ⟨b, hat, hb⟩
    · exact HT.ne j (by rw [← hat, hj])
    · intro h2
      have := (HT.r.lt j h2).2
      rw [hj] at hat
      injection hat with hat
      omega
theorem Two.grew_r {k : IntKind} {e : TypeId} {base : Nat} {w0 w w1 : World} {v v' v1 : Value} {xs ys : List Int} {y : Int} (HT : Two k e base w0 w v v' xs ys) (hown : w1.ownsRow base e 1 v1 (ys ++ [y]).length (nums k (ys ++ [y]))) (hB : Below base w0 w1) (hg : w.grownBy w1 v'.ownBlock) (hat : v1.ownBlock = v'.ownBlock ∨ ∃ b, v1.ownBlock = some b ∧ w.heap.size ≤ b) : Two k e base w0 w1 v v1 xs (ys ++ [y]) := by
  refine ⟨HT.l.kept hg ?_, hown, ?_, hB, Nat.le_trans HT.size hg.size⟩
  · cases hv : v.ownBlock with
    | none => simp
    | some j => exact .inr fun h2 => HT.ne j hv h2.symm
  · intro j hj h2
    rcases hat with hat | ⟨b, hat, hb⟩
    · exact HT.ne j hj (by rw [← hat, h2])
    · have := (HT.l.lt j hj).2
      rw [h2] at hat
      injection hat with hat
      omega
theorem Two.start (w : World) : Two .i64 2 w.heap.size w ((w.alloc (.cells #[] 2)).alloc (.cells #[] 2)) (.slice (some ⟨w.heap.size, 0, none⟩) 0 0) (.slice (some ⟨w.heap.size + 1, 0, none⟩) 0 0) [] [] := ⟨
    by
      have := (own_lit w w.heap.size 2 .i64 [] (by simp) (by simp)).alloc (.cells #[] 2)
      simpa [nums] using this,
    by
      have := own_lit (w.alloc (.cells #[] 2)) w.heap.size 2 .i64 [] (by simp) (by simp)
      simpa [nums] using this,
    fun j hj => by simp [Value.ownBlock] at hj ⊢; omega, ((Below.refl _ _).alloc (Nat.le_refl _) _).alloc (by simp) _, by simp; omega⟩
set_option maxHeartbeats 1000000 in
set_option maxRecDepth 100000 in
/-- The closure of WhereAt: whether a station is reached from hour lo to hour hi. -/
theorem between_is (g : Nat) (T : TypeId) (G : List Bool) (hG : G.length = 2408) (st : Nat) (hst : st < 8) (lo hi : Int) (hl0 : -1000 ≤ lo) (hl1 : lo ≤ 1000) (hh0 : -1000 ≤ hi) (hh1 : hi ≤ 1000) (w : World) (hr : RowAt w g T G) :
    Calls Try.prog 35 #[.int .i8 st, .int .i64 lo, .int .i64 hi, .pointer (some ⟨g, 0, none⟩)] w fun e w' => e = .returned (.bool (someH (fun h => G.getD (st * 301 + h) false) lo hi)) ∧ w = w' := by
  have HR := Aside0.mk hr
  clear hr
  obtain ⟨p, hp⟩ : ∃ p : Nat → Bool, p = fun h => G.getD (st * 301 + h) false := ⟨_, rfl⟩
  have HP : Aside0 (∀ h, G.getD (st * 301 + h) false = p h) := ⟨fun h => by rw [hp]⟩
  rw [← hp]
  clear hp
  obtain ⟨a, ha⟩ : ∃ a : Nat, a = (max lo 0).toNat := ⟨_, rfl⟩
  obtain ⟨M, hM⟩ : ∃ M : Int, M = min hi 300 := ⟨_, rfl⟩
  obtain ⟨n, hn⟩ : ∃ n : Nat, n = (M + 1 - max lo 0).toNat := ⟨_, rfl⟩
  have hmx : (if lo < 0 then 0 else lo) = (a : Int) := by rw [ha]; split <;> omega
  have hmn : (if 300 < hi then 300 else hi) = M := by rw [hM]; split <;> omega
  have hM3 : M ≤ 300 := by omega
  have hna : (n : Int) = 0 ∨ (n : Int) + a = M + 1 := by omega
  have hn0 : n = 0 → M < a := by omega
  obtain ⟨R, hR⟩ : ∃ R, R = someH p lo hi := ⟨_, rfl⟩
  have E : Aside0 (R = decide (0 ≤ firstH p n a)) := ⟨by rw [hR]; unfold someH; rw [hn, hM, ha]⟩
  rw [← hR]
  clear ha hM hn hR
  go_enter Try.func35, Try.ntmps35
  go_wp2
  go_loopg [8] n (fun gg v8 wr => ∃ (k j : Nat), k ≤ n ∧ n - k ≤ gg ∧ Aside0 (j = a + k) ∧ v8 = .int .i64 j ∧ Aside0 (firstH p (n - k) j = firstH p n a) ∧ wr = w)
  case atStart => exact ⟨0, a, by omega, by omega, ⟨rfl⟩, rfl, ⟨rfl⟩, rfl⟩
  case round =>
    obtain ⟨k, j, hk, hgg, HJ, rfl, HA, rfl⟩ := hrel
    have hj := HJ.out
    by_cases hlt : k < n
    · have hle : (j : Int) ≤ M := by omega
      have hk3 : j < 301 := by omega
      have hk3z : (j : Int) < 301 := by omega
      have hst8z : (st : Int) < 8 := by omega
      have hcell := HR.out.cell (st * 301 + j) (by omega)
      clear hj
      rw [HP.out j] at hcell
      have hd : firstH p (n - k) j = if p j = true then (j : Int) else firstH p (n - (k + 1)) (j + 1) := by
        rw [show n - k = (n - (k + 1)) + 1 by omega, firstH]
      cases hq : p j with
      | true =>
        rw [hq] at hcell hd
        have ER : Aside0 (R = true) := ⟨by
          have hz : firstH p n a = (j : Int) := by rw [← HA.out, hd, if_pos rfl]
          rw [E.out, hz]
          exact decide_eq_true (by omega)⟩
        clear hd hq
        go_wp2
        go_ret
        exact ⟨by rw [ER.out]; rfl, rfl⟩
      | false =>
        rw [hq] at hcell hd
        have HD2 : Aside0 (firstH p (n - (k + 1)) (j + 1) = firstH p n a) := ⟨by rw [← HA.out, hd, if_neg (by simp)]⟩
        clear hd hq
        go_wp2
        go_roundg (n - (k + 1))
        case measure => omega
        case rel => exact ⟨k + 1, j + 1, by omega, by omega, ⟨by rw [HJ.out]; rfl⟩, by go_num, HD2, rfl⟩
    · have hle : ¬ (j : Int) ≤ M := by omega
      clear hj
      have ER : Aside0 (R = false) := ⟨by
        have hz : firstH p n a = -1 := by rw [← HA.out, show n - k = 0 by omega]; rfl
        rw [E.out, hz]
        rfl⟩
      go_wp2
      go_ret
      exact ⟨by rw [ER.out]; rfl, rfl⟩
/-- Where one can be: at a station, from an hour of arrival on; the first one is where it was seen. -/
def tmB (t : Int) (l : List S44) (x0 x1 s h : Nat) : Bool := arrB t l x0 x1 s h || (decide (s = x0) && decide (h = x1))
def statB (t : Int) (l : List S44) (x0 x1 : Nat) (hour : Int) (s : Nat) : Bool := someH (tmB t l x0 x1 s) (hour - t) hour
def laneB (t : Int) (l : List S44) (x0 x1 : Nat) (hour : Int) (i : Nat) : Bool := decide (1 < (l.getD i z44).f3) && someH (tmB t l x0 x1 (l.getD i z44).f0.toNat) (hour - (l.getD i z44).f3 + 1 - t) (hour - 1)
def whereRes (s t : Int) (l : List S44) (a : S31) (hour : Int) : List Int × List Int × Int :=
  if codeB (netB s t l) (scanIn s a && inB hour 0 300) = 0 then (selL (statB t l a.f0.toNat a.f1.toNat hour) s.toNat, selL (laneB t l a.f0.toNat a.f1.toNat hour) l.length, 0) else ([], [], codeB (netB s t l) (scanIn s a && inB hour 0 300))
theorem someH_congr {p q : Nat → Bool} {lo hi : Int} (h : ∀ k, k < 301 → p k = q k) : someH p lo hi = someH q lo hi := by
  unfold someH
  rw [fH_congr p q _ _ (fun k h1 h2 => h k (by omega))]
theorem tm_of_row {t : Int} {l : List S44} {x0 x1 : Nat} {G : List Bool} (lG : G.length = 2408) (hl : ∀ x ∈ l, laneV x) (hG : ArrT t l x0 x1 G) (hx0 : x0 < 8) (hx1 : x1 < 301) (s h : Nat) (hs : s < 8) (hh : h < 301) : (G.set (x0 * 301 + x1) true).getD (s * 301 + h) false = tmB t l x0 x1 s h := by
  have e : ∀ b c : Bool, (b = true ↔ c = true) → b = c := by intro b c; cases b <;> cases c <;> simp
  apply e
  rw [set_true G _ _ (by omega)]
  unfold tmB
  rw [← arrB_eq hl hG hs hh]
  unfold gat
  simp only [Bool.or_eq_true, Bool.and_eq_true, decide_eq_true_eq]
  constructor
  · rintro (h1 | h1)
    · exact .inr (by omega)
    · exact .inl h1
  · rintro (h1 | h1)
    · exact .inr h1
    · exact .inl (by rw [h1.1, h1.2])
end Go.Proofs.Yticfecncdpdanaa.Q
