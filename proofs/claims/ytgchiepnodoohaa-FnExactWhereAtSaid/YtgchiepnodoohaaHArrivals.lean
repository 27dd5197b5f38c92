/- impl's firstOf, ArrivalsAt. -/
import Derived.Test.YtgchiepnodoohaaHSCanGo
set_option linter.unusedVariables false
set_option linter.unusedSimpArgs false
namespace Go.Proofs.Ytgchiepnodoohaa.Q
open Go.RowKit Go.Proofs.YtgchiepnodoohaaW.PrintWords Go.Proofs.YtgchiepnodoohaaW.PrintLast Go.Proofs.YtgchiepnodoohaaW.PrintMore
/-- The first code that is not 0. -/
def firstB : List Int → Int
  | [] => 0
  | c :: r => if c = 0 then firstB r else c
set_option maxHeartbeats 1000000 in
theorem firstOf_is (A : Option Addr) (c : Nat) (l : List Int) (w : World) (hr : Kd.C (Kd.int .i64) w A l.length l) (hc : l.length ≤ c) (hl : l.length ≤ 1048576) :
    Calls Try.prog 72 #[.slice A l.length c] w fun e w' => e = .returned (.int .i64 (firstB l)) ∧ w = w' := by
  have HR := Aside0.mk hr
  clear hr
  go_enter Try.func72, Try.ntmps72
  go_wp2
  go_loopg [7] l.length (fun gg v7 wr => ∃ (kk : Nat), kk ≤ l.length ∧ l.length - kk ≤ gg ∧ v7 = .int .i64 kk ∧ Aside0 (firstB (l.drop kk) = firstB l) ∧ wr = w)
  case atStart => exact ⟨0, by omega, by omega, rfl, ⟨rfl⟩, rfl⟩
  case round =>
    obtain ⟨kk, hkk, hg, rfl, HA, rfl⟩ := hrel
    by_cases hlt : kk < l.length
    · have hltz : (kk : Int) < (l.length : Int) := by omega
      obtain ⟨ad, e, hx0⟩ := at_int64 HR.out kk hlt
      have hd := drop_cons_of' l 0 kk hlt
      subst e
      generalize l.getD kk 0 = y at hx0 hd
      by_cases hy : y = 0
      · have HD : Aside0 (firstB (l.drop (kk + 1)) = firstB l) := ⟨by rw [← HA.out, hd, firstB, if_pos hy]⟩
        clear hd HA
        subst hy
        go_wp2
        go_roundg (l.length - (kk + 1))
        case measure => omega
        case rel => exact ⟨kk + 1, by omega, by omega, by go_num, HD, rfl⟩
      · have HD : Aside0 (y = firstB l) := ⟨by rw [← HA.out, hd, firstB, if_neg hy]⟩
        have hy2 : (y != 0) = true := by simp [hy]
        clear hd HA
        go_wp2
        go_ret
        exact ⟨by rw [← HD.out]; rfl, rfl⟩
    · have hltz : ¬ (kk : Int) < (l.length : Int) := by omega
      have HD : Aside0 (firstB l = 0) := ⟨by rw [← HA.out, List.drop_of_length_le (by omega)]; rfl⟩
      go_wp2
      go_ret
      exact ⟨by rw [HD.out]; rfl, rfl⟩
theorem firstB_two (n f g : Bool) : firstB [codeB n f, codeB n g] = codeB n (f && g) := by
  cases n <;> cases f <;> cases g <;> rfl
theorem below_alloc1 {V W : World} {o : Obj} (h : Below V.heap.size V W) : Below V.heap.size V (W.alloc o) := h.alloc h.size o
theorem below_call1 {V W W2 : World} (h : Below V.heap.size V W) (hb : Below W.heap.size W W2) : Below V.heap.size V W2 := h.trans (hb.mono h.size)
theorem cells5 {V W : World} {p0 p1 p2 p3 p4 : Addr} {v0 v1 v2 v3 v4 : Value} (q0 : V.cell? p0 = some v0) (q1 : V.cell? p1 = some v1) (q2 : V.cell? p2 = some v2) (q3 : V.cell? p3 = some v3) (q4 : V.cell? p4 = some v4) (hB : Below V.heap.size V W) :
    W.cell? p0 = some v0 ∧ W.cell? p1 = some v1 ∧ W.cell? p2 = some v2 ∧ W.cell? p3 = some v3 ∧ W.cell? p4 = some v4 ∧ Below V.heap.size V W :=
  ⟨pw_cell_below hB q0, pw_cell_below hB q1, pw_cell_below hB q2, pw_cell_below hB q3, pw_cell_below hB q4, hB⟩
/-- A slice of two whole numbers, just made. -/
theorem two_reads (w : World) (b : Nat) (hb : b = w.heap.size) (n m : Int) : Kd.C (Kd.int .i64) (w.alloc (.cells #[.int .i64 n, .int .i64 m] 2)) (some ⟨b, 0, none⟩) [n, m].length [n, m] := by
  subst hb
  refine ⟨rfl, by simp, fun _ => ⟨_, rfl, fun j p hj => ⟨[.int .i64 p], rfl, rfl, fun i u hu => ?_⟩⟩⟩
  have hsz : (Kd.int .i64).sz = 1 := rfl
  rw [hsz]
  match j, i, hj, hu with
  | 0, 0, hj, hu => simp at hj hu; subst hj hu; go_simp
  | 1, 0, hj, hu => simp at hj hu; subst hj hu; go_simp
  | 0, i + 1, hj, hu => simp at hu
  | 1, i + 1, hj, hu => simp at hu
  | j + 2, _, hj, hu => simp at hj
/-- The hours, n of them from h on, of which p holds. -/
def hoursFrom (p : Nat → Bool) : Nat → Nat → List Int
  | 0, _ => []
  | n + 1, h => if p h = true then (h : Int) :: hoursFrom p n (h + 1) else hoursFrom p n (h + 1)
theorem hoursFrom_length (p : Nat → Bool) (n h : Nat) : (hoursFrom p n h).length ≤ n := by
  induction n generalizing h with
  | zero => simp [hoursFrom]
  | succ n ih =>
    have := ih (h + 1)
    unfold hoursFrom
    split <;> simp <;> omega
def arrRes (s t : Int) (l : List S82) (a : S47) (st : Int) : List Int × Int := coded (codeB (netB s t l) (scanIn s a && inB st 0 (s - 1))) [] (hoursFrom (fun h => arrB t l a.f0.toNat a.f1.toNat st.toNat h) 301 0)
set_option maxHeartbeats 4000000 in
set_option maxRecDepth 100000 in
theorem ArrivalsAt_any (s t : Int) (A : Option Addr) (c : Nat) (l : List S82) (a0 a1 st : Int) (w : World) (hr : Kd.C k82 w A l.length l) (hc : l.length ≤ c) (hok : okNet s t l = true) (hoa : okScan ⟨a0, a1⟩ = true) :
    Calls Try.prog 32 #[.agg #[.int .i8 s, .int .i16 t, .slice A l.length c], .agg #[.int .i8 a0, .int .i16 a1], .int .i64 st] w fun e w' => ∃ v : Value, e = .returned (.tuple #[v, .int .i64 (arrRes s t l ⟨a0, a1⟩ st).2]) ∧ Kd.R (Kd.int .i64) 2 w' w.heap.size (fun _ => True) v (arrRes s t l ⟨a0, a1⟩ st).1 ∧ Below w.heap.size w w' := by
  have HR := Aside0.mk hr
  have OK := Aside0.mk hok
  have HSC : Aside0 (∀ x ∈ [(⟨a0, a1⟩ : S47)], okScan x = true) := ⟨by simp [hoa]⟩
  clear hr hok hoa
  go_enter Try.func32, Try.ntmps32
  go_wp2
  have HBW : Aside0 (Below w.heap.size w ((w.alloc (.cells #[.int .i8 s, .int .i16 t, .slice A l.length c] 31)).alloc (.cells #[.int .i8 a0, .int .i16 a1] 47))) := ⟨((Below.refl _ _).alloc (Nat.le_refl _) _).alloc (by simp) _⟩
  have q0 : ((w.alloc (.cells #[.int .i8 s, .int .i16 t, .slice A l.length c] 31)).alloc (.cells #[.int .i8 a0, .int .i16 a1] 47)).cell? ⟨w.heap.size, 0, none⟩ = some (.int .i8 s) := by go_simp
  have q1 : ((w.alloc (.cells #[.int .i8 s, .int .i16 t, .slice A l.length c] 31)).alloc (.cells #[.int .i8 a0, .int .i16 a1] 47)).cell? ⟨w.heap.size, 1, none⟩ = some (.int .i16 t) := by go_simp
  have q2 : ((w.alloc (.cells #[.int .i8 s, .int .i16 t, .slice A l.length c] 31)).alloc (.cells #[.int .i8 a0, .int .i16 a1] 47)).cell? ⟨w.heap.size, 2, none⟩ = some (.slice A l.length c) := by go_simp
  have q3 : ((w.alloc (.cells #[.int .i8 s, .int .i16 t, .slice A l.length c] 31)).alloc (.cells #[.int .i8 a0, .int .i16 a1] 47)).cell? ⟨w.heap.size + 1, 0, none⟩ = some (.int .i8 a0) := by go_simp
  have q4 : ((w.alloc (.cells #[.int .i8 s, .int .i16 t, .slice A l.length c] 31)).alloc (.cells #[.int .i8 a0, .int .i16 a1] 47)).cell? ⟨w.heap.size + 1, 1, none⟩ = some (.int .i16 a1) := by go_simp
  have HRV := Aside0.mk (Kd.C_below HR.out HBW.out)
  have hz : w.heap.size + 1 < ((w.alloc (.cells #[.int .i8 s, .int .i16 t, .slice A l.length c] 31)).alloc (.cells #[.int .i8 a0, .int .i16 a1] 47)).heap.size := by simp
  generalize ((w.alloc (.cells #[.int .i8 s, .int .i16 t, .slice A l.length c] 31)).alloc (.cells #[.int .i8 a0, .int .i16 a1] 47)) = V at *
  go_cut [8] from 12 to 21 (fun v8 wx => v8 = .int .i64 (codeB (netB s t l) (scanIn s ⟨a0, a1⟩ && inB st 0 (s - 1))) ∧ Aside0 (Below V.heap.size V wx))
  case first =>
    have hbr : Below V.heap.size V V := Below.refl _ _
    go_region_held_law (fun w' => w'.cell? ⟨w.heap.size, 0, none⟩ = some (.int .i8 s) ∧ w'.cell? ⟨w.heap.size, 1, none⟩ = some (.int .i16 t) ∧ w'.cell? ⟨w.heap.size, 2, none⟩ = some (.slice A l.length c) ∧ w'.cell? ⟨w.heap.size + 1, 0, none⟩ = some (.int .i8 a0) ∧ w'.cell? ⟨w.heap.size + 1, 1, none⟩ = some (.int .i16 a1) ∧ Below V.heap.size V w')
      ((refine cells5 q0 q1 q2 q3 q4 ?_; (try go_split_ands); first | ((repeat (with_reducible first | assumption | apply Below.drew | apply below_alloc1)); done) | exact below_call1 (by assumption) hb19 | exact below_call1 (by assumption) hb15 | exact below_call1 (by repeat (with_reducible first | assumption | apply Below.drew | apply below_alloc1)) hb19 | exact below_call1 (by repeat (with_reducible first | assumption | apply Below.drew | apply below_alloc1)) hb15))
      (first
        | (go_at_call 69; refine (scanCode_is s t A c l _ _ [⟨a0, a1⟩] _ (Kd.C_below HRV.out (by go_split_ands; repeat (with_reducible first | assumption | apply Below.drew | apply below_alloc1))) hc OK.out (by repeat (with_reducible first | apply Kd.C_drew | exact one_scan _ _ (by simp) ⟨a0, a1⟩ | apply Kd.C_alloc)) (by simp) (by simp) HSC.out).mono ?_; rintro e w15 ⟨rfl, hb15⟩)
        | (go_at_call 65; refine (netCode_is s t A c l _ _ [st] none 0 [] _ (Kd.C_below HRV.out (by go_split_ands; repeat (with_reducible first | assumption | apply Below.drew | apply below_alloc1))) hc OK.out (by repeat (with_reducible first | apply Kd.C_drew | exact one_reads' _ _ (by simp) st | apply Kd.C_alloc | refine Kd.C_below ?_ hb15)) (by simp) (nil_reads _ _ _) (by simp)).mono ?_; rintro e w19 ⟨rfl, hb19⟩)
        | (go_at_call 72; refine (firstOf_is _ _ [_, _] _ (by repeat (with_reducible first | apply Kd.C_drew | exact two_reads _ _ (by simp) _ _ | apply Kd.C_alloc)) (by simp) (by simp)).mono ?_; rintro e w21 ⟨rfl, rfl⟩))
    all_goals
      go_wp2_with fail
      go_meet
      go_split_ands
      exact ⟨by rw [firstB_two, scansIn_eq1, allIn_one, show allIn [] 0 300 = true from rfl, Bool.and_true], ⟨by repeat (with_reducible first | assumption | apply Below.drew | apply below_alloc1)⟩⟩
  case rest =>
    obtain ⟨rfl, HX⟩ := hcut
    have d0 := pw_cell_below HX.out q0
    have d1 := pw_cell_below HX.out q1
    have d2 := pw_cell_below HX.out q2
    have d3 := pw_cell_below HX.out q3
    have d4 := pw_cell_below HX.out q4
    have hb1 : Aside0 (Below w.heap.size w wc) := ⟨HBW.out.trans (HX.out.mono HBW.out.size)⟩
    have hwz : w.heap.size + 1 < wc.heap.size := by have := HX.out.size; omega
    have hwz0 : w.heap.size < wc.heap.size := by omega
    clear q0 q1 q2 q3 q4
    cases h1 : netB s t l with
    | false =>
      have ER : Aside0 (arrRes s t l ⟨a0, a1⟩ st = ([], 1)) := ⟨by unfold arrRes; rw [h1]; rfl⟩
      clear h1
      simp only [codeB, Bool.false_eq_true, if_false]
      go_wp2
      go_ret2
      rw [ER.out]
      exact ⟨_, rfl, Kd.R_nil _ _ _ _ _, hb1.out⟩
    | true =>
      cases h2 : (scanIn s ⟨a0, a1⟩ && inB st 0 (s - 1)) with
      | false =>
        have ER : Aside0 (arrRes s t l ⟨a0, a1⟩ st = ([], 2)) := ⟨by unfold arrRes; rw [h1, h2]; rfl⟩
        clear h1 h2
        simp only [codeB, Bool.false_eq_true, if_false, if_true]
        go_wp2
        go_ret2
        rw [ER.out]
        exact ⟨_, rfl, Kd.R_nil _ _ _ _ _, hb1.out⟩
      | true =>
        have ER : Aside0 (arrRes s t l ⟨a0, a1⟩ st = (hoursFrom (fun h => arrB t l a0.toNat a1.toNat st.toNat h) 301 0, 0)) := ⟨by unfold arrRes; rw [h1, h2]; rfl⟩
        obtain ⟨hl, hs1, hs8, ht0, ht1⟩ := laneV_of h1
        rw [Bool.and_eq_true] at h2
        obtain ⟨hina, hst⟩ := h2
        unfold scanIn at hina
        rw [Bool.and_eq_true] at hina
        obtain ⟨x0, x1, hx, hx0, hx1, hx2, hx3⟩ := scansIn_nat hs8 hina
        injection hx with e1 e2
        subst e1 e2
        obtain ⟨hst0, hst1⟩ := inB_true.1 hst
        obtain ⟨st, rfl⟩ := Int.eq_ofNat_of_zero_le hst0
        have hst8 : st < 8 := by omega
        have HL := Aside0.mk hl
        clear h1 hina hst hl hx2 hx3 hst0 hst1
        simp only [codeB, if_true]
        go_wp2_with fail
        refine (all_is s t A c l x0 x1 _ (Kd.C_alloc (Kd.C_below HR.out hb1.out) _) hc HL.out ht0 ht1 hx0 hx1).mono ?_
        rintro e w2 ⟨G, lG, hG, rfl, hb2⟩
        have hixT := fun w => run_indexT .i64 G lG st hst8 w
        have lp := part_length G (st * 301) 301 (by omega)
        have HE : Aside0 (∀ h, h < 301 → ((G.drop (st * 301)).take 301).getD h false = arrB t l x0 x1 st h) := ⟨fun h hh => by rw [part_getD _ _ _ _ hh, ← arrB_eq HL.out hG hst8 hh]; rfl⟩
        have HO0 : Aside0 (w2.ownsRow w.heap.size 2 1 (.slice (some ⟨wc.heap.size, 0, none⟩) 0 0) ([] : List Int).length (nums .i64 [])) := ⟨pw_own_below (own_lit0 wc w.heap.size 2 wc.heap.size rfl (by omega)) hb2⟩
        have hb3 : Aside0 (Below w.heap.size w w2) := ⟨(hb1.out.alloc hb1.out.size _).trans (hb2.mono (by simp; omega))⟩
        generalize (G.drop (st * 301)).take 301 = P at *
        clear hb2 hG d0 d1 d2 d3 d4
        go_wp2
        go_loopg [9, 31] 301 (fun gg v9 v31 wr => ∃ (kk : Nat) (xs : List Int), kk ≤ 301 ∧ 301 - kk ≤ gg ∧ v31 = .int .i64 kk ∧ xs.length ≤ kk ∧ Aside0 (wr.ownsRow w.heap.size 2 1 v9 xs.length (nums .i64 xs)) ∧ Aside0 (Below w.heap.size w wr) ∧ Aside0 (xs ++ hoursFrom (fun h => arrB t l x0 x1 st h) (301 - kk) kk = hoursFrom (fun h => arrB t l x0 x1 st h) 301 0))
        case atStart => exact ⟨0, [], Nat.zero_le _, by omega, rfl, Nat.le_refl _, HO0, hb3, ⟨rfl⟩⟩
        case round =>
          obtain ⟨kk, xs, hkk, hg, rfl, hxs, HO, BW, HA⟩ := hrel
          by_cases hlt : kk < 301
          · have hltz : (kk : Int) < 301 := by omega
            have hix := fun w => run_indexH .i64 P lp kk hlt w
            rw [HE.out kk hlt] at hix
            have hd : hoursFrom (fun h => arrB t l x0 x1 st h) (301 - kk) kk = if arrB t l x0 x1 st kk = true then (kk : Int) :: hoursFrom (fun h => arrB t l x0 x1 st h) (301 - (kk + 1)) (kk + 1) else hoursFrom (fun h => arrB t l x0 x1 st h) (301 - (kk + 1)) (kk + 1) := by
              rw [show 301 - kk = (301 - (kk + 1)) + 1 by omega, hoursFrom]
            cases hq : arrB t l x0 x1 st kk with
            | false =>
              rw [hq] at hix
              have HD2 : Aside0 (xs ++ hoursFrom (fun h => arrB t l x0 x1 st h) (301 - (kk + 1)) (kk + 1) = hoursFrom (fun h => arrB t l x0 x1 st h) 301 0) := ⟨by rw [← HA.out, hd, if_neg (by simp [hq])]⟩
              clear hq hd HA
              go_wp2
              go_roundg (301 - (kk + 1))
              case measure => omega
              case rel => exact ⟨kk + 1, xs, by omega, by omega, by go_num, by omega, HO, BW, HD2⟩
            | true =>
              rw [hq] at hix
              have HD2 : Aside0 ((xs ++ [(kk : Int)]) ++ hoursFrom (fun h => arrB t l x0 x1 st h) (301 - (kk + 1)) (kk + 1) = hoursFrom (fun h => arrB t l x0 x1 st h) 301 0) := ⟨by rw [← HA.out, hd, if_pos hq]; simp⟩
              clear hq hd HA
              go_wp2_with (at_builtin; refine print_append_num (w0 := w) w.heap.size rfl (.tmp 36) (.tmp 38) 36 2 .i64 8 rfl Try.underlying36 infoI64 (by omega) _ xs (kk : Int) rfl (by go_simp) HO.out BW.out BW.out.size (by omega) ?_; intro v1 w3 hown1 hB1 hg1 hat1)
              have HO1 := Aside0.mk hown1
              have HB1 := Aside0.mk hB1
              clear hown1 hB1 hg1 hat1
              go_wp2
              go_roundg (301 - (kk + 1))
              case measure => omega
              case rel => exact ⟨kk + 1, xs ++ [(kk : Int)], by omega, by omega, by go_num, by simp; omega, HO1, HB1, HD2⟩
          · have hltz : ¬ (kk : Int) < 301 := by omega
            have hk : kk = 301 := by omega
            have HA2 : Aside0 (xs = hoursFrom (fun h => arrB t l x0 x1 st h) 301 0) := ⟨by rw [← HA.out, hk]; simp [hoursFrom]⟩
            clear HA hk
            go_wp2
            go_ret2
            rw [ER.out]
            refine ⟨_, rfl, ?_, BW.out⟩
            simp only [Int.toNat_natCast]
            rw [← HA2.out]
            exact Kd.R_of_own HO.out (fun _ _ => trivial)
def impl_ArrivalsAt.f (a0_0 : Int) (a0_1 : Int) (l0_2 : List (S82)) (a1_0 : Int) (a1_1 : Int) (a2 : Int) : Option (List Int × Int) := if okNet a0_0 a0_1 l0_2 = true ∧ okScan ⟨a1_0, a1_1⟩ = true then some (arrRes a0_0 a0_1 l0_2 ⟨a1_0, a1_1⟩ a2) else none
theorem impl_ArrivalsAt.calls (a0_0 : Int) (a0_1 : Int) (A0_2 : Option Addr) (c0_2 : Nat) (l0_2 : List (S82)) (a1_0 : Int) (a1_1 : Int) (a2 : Int) (r1 : List Int) (r2 : Int) (w : World) (hr0_2 : Kd.C k82 w A0_2 l0_2.length l0_2) (hc0_2 : l0_2.length ≤ c0_2) (h : impl_ArrivalsAt.f a0_0 a0_1 l0_2 a1_0 a1_1 a2 = some (r1, r2)) :
    Calls Try.prog 32 #[.agg #[.int .i8 a0_0, .int .i16 a0_1, .slice A0_2 l0_2.length c0_2], .agg #[.int .i8 a1_0, .int .i16 a1_1], .int .i64 a2] w fun e w' => ∃ v0_ : Value, e = .returned (.tuple #[v0_, .int .i64 r2]) ∧ Kd.R (Kd.int .i64) 2 w' w.heap.size (fun _ => True) v0_ r1 ∧ Below w.heap.size w w' := by
  unfold impl_ArrivalsAt.f at h
  split at h
  · injection h with h
    have h1 : (arrRes a0_0 a0_1 l0_2 ⟨a1_0, a1_1⟩ a2).1 = r1 := by rw [h]
    have h2 : (arrRes a0_0 a0_1 l0_2 ⟨a1_0, a1_1⟩ a2).2 = r2 := by rw [h]
    rw [← h1, ← h2]
    rename_i hh
    exact ArrivalsAt_any _ _ _ _ _ _ _ _ w hr0_2 hc0_2 hh.1 hh.2
  · cases h
end Go.Proofs.Ytgchiepnodoohaa.Q
