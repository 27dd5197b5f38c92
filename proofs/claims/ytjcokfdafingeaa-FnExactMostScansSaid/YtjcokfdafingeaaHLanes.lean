/- impl.LanesFrom: the lanes that leave a station, by their indices; for nets whose fields lie in their kinds. -/
import Derived.Test.YtjcokfdafingeaaHCode
set_option linter.unusedVariables false
set_option linter.unusedSimpArgs false
namespace Go.Proofs.Ytjcokfdafingeaa.Q
open Go.RowKit Go.Proofs.YtjcokfdafingeaaW.PrintWords Go.Proofs.YtjcokfdafingeaaW.PrintLast Go.Proofs.YtjcokfdafingeaaW.PrintMore

theorem infoI64 : (Try.prog.info? 2).map (fun i => (i.zero, i.size, i.bytes)) = some (some (.int .i64 0), 1, 8) := by kernel_rfl
/-- The indices, from i on, of the lanes that leave a station. -/
def lanesFrom (st : Int) : List S71 → Int → List Int
  | [], _ => []
  | x :: r, i => if x.f0 = st then i :: lanesFrom st r (i + 1) else lanesFrom st r (i + 1)
theorem lanesFrom_length (st : Int) (l : List S71) (i : Int) : (lanesFrom st l i).length ≤ l.length := by
  induction l generalizing i with
  | nil => simp [lanesFrom]
  | cons x r ih =>
    unfold lanesFrom
    have := ih (i + 1)
    split
    · simp; omega
    · simp; omega
theorem drop_cons_of' {α : Type} (l : List α) (z : α) (i : Nat) (h : i < l.length) : l.drop i = l.getD i z :: l.drop (i + 1) := by
  rw [List.getD_eq_getElem?_getD, List.getElem?_eq_getElem h]
  exact List.drop_eq_getElem_cons h
def coded {α : Type} (c : Int) (z x : α) : α × Int := if c = 0 then (x, 0) else (z, c)
/-- A slice of one whole number, just made. -/
theorem one_reads (w : World) (n : Int) : Kd.C (Kd.int .i64) (w.alloc (.cells #[.int .i64 n] 2)) (some ⟨w.heap.size, 0, none⟩) [n].length [n] := by
  refine ⟨rfl, by simp, fun _ => ⟨_, rfl, fun j p hj => ⟨[.int .i64 p], rfl, rfl, fun i u hu => ?_⟩⟩⟩
  cases j with
  | zero =>
    cases i with
    | zero =>
      simp at hj hu
      subst hj hu
      go_simp
    | succ i => simp at hu
  | succ j => simp at hj
theorem one_reads' (w : World) (b : Nat) (hb : b = w.heap.size) (n : Int) : Kd.C (Kd.int .i64) (w.alloc (.cells #[.int .i64 n] 2)) (some ⟨b, 0, none⟩) [n].length [n] := by
  subst hb
  exact one_reads w n
theorem nil_reads {α : Type} (d : Kd α) (w : World) (A : Option Addr) : Kd.C d w A ([] : List α).length [] := ⟨rfl, by simp, fun h => absurd h (by simp)⟩
def lanesRes (s t : Int) (l : List S71) (st : Int) : List Int × Int := coded (codeB (netB s t l) (inB st 0 (s - 1))) [] (lanesFrom st l 0)
theorem allIn_one (n lo hi : Int) : allIn [n] lo hi = inB n lo hi := by simp [allIn]
set_option maxHeartbeats 1000000 in
set_option maxRecDepth 100000 in
theorem LanesFrom_any (s t : Int) (A : Option Addr) (c : Nat) (l : List S71) (st : Int) (w : World) (hr : Kd.C k71 w A l.length l) (hc : l.length ≤ c) (hok : okNet s t l = true) :
    Calls Try.prog 21 #[.agg #[.int .i8 s, .int .i16 t, .slice A l.length c], .int .i64 st] w fun e w' => ∃ v : Value, e = .returned (.tuple #[v, .int .i64 (lanesRes s t l st).2]) ∧ Kd.R (Kd.int .i64) 2 w' w.heap.size (fun _ => True) v (lanesRes s t l st).1 ∧ Below w.heap.size w w' := by
  obtain ⟨⟨hs0, hs1, ht0, ht1⟩, hl⟩ := okNet_iff.1 hok
  have HR := Aside0.mk hr
  have OK := Aside0.mk hok
  have HL := Aside0.mk hl
  clear hr hok hl
  go_enter Try.func21, Try.ntmps21
  go_wp2_with fail
  refine (netCode_is s t A c l (some ⟨w.heap.size + 1, 0, none⟩) 1 [st] none 0 [] _ (Kd.C_alloc (Kd.C_alloc HR.out _) _) hc OK.out (one_reads' _ _ (by simp) st) (by simp) (nil_reads _ _ _) (by simp)).mono ?_
  rintro e w1 ⟨rfl, hb⟩
  rw [allIn_one, show allIn [] 0 300 = true from rfl, Bool.and_true]
  have hb1 : Aside0 (Below w.heap.size w w1) := ⟨(((Below.refl _ _).alloc (Nat.le_refl _) _).alloc (by simp) _).trans (hb.mono (by simp; omega))⟩
  obtain ⟨hcl, hf⟩ := bcell hb
  have hz : w.heap.size < w1.heap.size := by have := hb.size; simp at this; omega
  clear hb
  cases h1 : netB s t l with
  | false =>
    have ER : Aside0 (lanesRes s t l st = ([], 1)) := ⟨by unfold lanesRes; rw [h1]; rfl⟩
    clear h1
    simp only [codeB, Bool.false_eq_true, if_false]
    go_wp2
    go_ret2
    rw [ER.out]
    exact ⟨_, rfl, Kd.R_nil _ _ _ _ _, hb1.out⟩
  | true =>
    cases h2 : inB st 0 (s - 1) with
    | false =>
      have ER : Aside0 (lanesRes s t l st = ([], 2)) := ⟨by unfold lanesRes; rw [h1, h2]; rfl⟩
      clear h1 h2
      simp only [codeB, Bool.false_eq_true, if_false, if_true]
      go_wp2
      go_ret2
      rw [ER.out]
      exact ⟨_, rfl, Kd.R_nil _ _ _ _ _, hb1.out⟩
    | true =>
      have ER : Aside0 (lanesRes s t l st = (lanesFrom st l 0, 0)) := ⟨by unfold lanesRes; rw [h1, h2]; rfl⟩
      have hlen : l.length ≤ 20 := by
        simp only [netB, Bool.and_eq_true, decide_eq_true_eq] at h1
        exact h1.2.2.1
      clear h1 h2
      simp only [codeB, if_true]
      go_wp2
      have HO0 : Aside0 ((w1.alloc (.cells #[] 2)).ownsRow w.heap.size 2 1 (.slice (some ⟨w1.heap.size, 0, none⟩) 0 0) ([] : List Int).length (nums .i64 [])) := ⟨own_lit w1 w.heap.size 2 .i64 [] (by omega) (by simp)⟩
      clear hcl hf
      go_loopg [7, 21] l.length (fun gg v7 v21 wr => ∃ (kk : Nat) (xs : List Int), kk ≤ l.length ∧ l.length - kk ≤ gg ∧ v21 = .int .i64 kk ∧ xs.length ≤ kk ∧ Aside0 (wr.ownsRow w.heap.size 2 1 v7 xs.length (nums .i64 xs)) ∧ Aside0 (Below w.heap.size w wr) ∧ Aside0 (xs ++ lanesFrom st (l.drop kk) kk = lanesFrom st l 0))
      case atStart => exact ⟨0, [], Nat.zero_le _, by omega, rfl, Nat.le_refl _, HO0, ⟨hb1.out.alloc hb1.out.size _⟩, ⟨by rw [List.drop_zero]; rfl⟩⟩
      case round =>
        obtain ⟨kk, xs, hkk, hg, rfl, hxs, HO, BW, HA⟩ := hrel
        by_cases hlt : kk < l.length
        · have hltz : (kk : Int) < (l.length : Int) := by omega
          obtain ⟨ad, e, hx0, hx1, hx2, hx3⟩ := at_T71 (Kd.C_below HR.out BW.out) (kk : Int) (by omega) hltz
          obtain ⟨a1, a2, a3, a4, a5, a6, a7, a8⟩ := okLane_iff.1 (HL.out (l.getD kk z71) (by rw [List.getD_eq_getElem?_getD, List.getElem?_eq_getElem hlt]; exact List.getElem_mem hlt))
          have hd := drop_cons_of' l z71 kk hlt
          simp only [rd_T71, Int.toNat_natCast] at hx0 hx1 hx2 hx3
          subst e
          generalize hy : l.getD kk z71 = y at hx0 hx1 hx2 hx3 a1 a2 a3 a4 a5 a6 a7 a8 hd
          obtain ⟨f, g, m, n⟩ := y
          simp only at a1 a2 a3 a4 a5 a6 a7 a8 hx0 hx1 hx2 hx3
          have HD : Aside0 (xs ++ (if f = st then (kk : Int) :: lanesFrom st (l.drop (kk + 1)) ((kk : Int) + 1) else lanesFrom st (l.drop (kk + 1)) ((kk : Int) + 1)) = lanesFrom st l 0) := ⟨by rw [← HA.out, hd]; rfl⟩
          clear hy hd HA
          cases h4 : (f == st) with
          | false =>
            have HD2 : Aside0 (xs ++ lanesFrom st (l.drop (kk + 1)) ((kk : Int) + 1) = lanesFrom st l 0) := ⟨by rw [← HD.out, if_neg (by simpa using h4)]⟩
            go_wp2
            go_roundg (l.length - (kk + 1))
            case measure => omega
            case rel => exact ⟨kk + 1, xs, by omega, by omega, by go_num, by omega, ⟨HO.out.alloc _⟩, ⟨BW.out.alloc BW.out.size _⟩, HD2⟩
          | true =>
            have HD2 : Aside0 ((xs ++ [(kk : Int)]) ++ lanesFrom st (l.drop (kk + 1)) ((kk : Int) + 1) = lanesFrom st l 0) := ⟨by rw [← HD.out, if_pos (by simpa using h4)]; simp⟩
            clear HD
            go_wp2_with (at_builtin; go_loud (refine print_append_num (w0 := w) w.heap.size rfl (.tmp 31) (.tmp 33) 36 2 .i64 8 rfl Try.underlying36 infoI64 (by omega) _ xs (kk : Int) rfl (by go_simp) (HO.out.alloc _) (BW.out.alloc BW.out.size _) (by have := BW.out.size; simp; omega) (by omega) ?_); intro v1 w2 hown1 hB1 hg1 hat1)
            have HO1 := Aside0.mk hown1
            have HB1 := Aside0.mk hB1
            clear hown1 hB1 hg1 hat1
            go_wp2
            go_roundg (l.length - (kk + 1))
            case measure => omega
            case rel => exact ⟨kk + 1, xs ++ [(kk : Int)], by omega, by omega, by go_num, by simp; omega, HO1, HB1, HD2⟩
        · have hltz : ¬ (kk : Int) < (l.length : Int) := by omega
          have hk : kk = l.length := by omega
          have HA2 : Aside0 (xs = lanesFrom st l 0) := ⟨by rw [← HA.out, List.drop_of_length_le (by omega)]; simp [lanesFrom]⟩
          clear HA
          subst hk
          go_wp2
          go_ret2
          rw [ER.out]
          refine ⟨_, rfl, ?_, BW.out⟩
          rw [← HA2.out]
          exact Kd.R_of_own HO.out (fun _ _ => trivial)
def impl_LanesFrom.f (a0_0 : Int) (a0_1 : Int) (l0_2 : List (S71)) (a1 : Int) : Option (List Int × Int) := if okNet a0_0 a0_1 l0_2 = true then some (lanesRes a0_0 a0_1 l0_2 a1) else none
theorem impl_LanesFrom.calls (a0_0 : Int) (a0_1 : Int) (A0_2 : Option Addr) (c0_2 : Nat) (l0_2 : List (S71)) (a1 : Int) (r1 : List Int) (r2 : Int) (w : World) (hr0_2 : Kd.C k71 w A0_2 l0_2.length l0_2) (hc0_2 : l0_2.length ≤ c0_2) (h : impl_LanesFrom.f a0_0 a0_1 l0_2 a1 = some (r1, r2)) :
    Calls Try.prog 21 #[.agg #[.int .i8 a0_0, .int .i16 a0_1, .slice A0_2 l0_2.length c0_2], .int .i64 a1] w fun e w' => ∃ v0_ : Value, e = .returned (.tuple #[v0_, .int .i64 r2]) ∧ Kd.R (Kd.int .i64) 2 w' w.heap.size (fun _ => True) v0_ r1 ∧ Below w.heap.size w w' := by
  unfold impl_LanesFrom.f at h
  split at h
  · injection h with h
    have h1 : (lanesRes a0_0 a0_1 l0_2 a1).1 = r1 := by rw [h]
    have h2 : (lanesRes a0_0 a0_1 l0_2 a1).2 = r2 := by rw [h]
    rw [← h1, ← h2]
    exact LanesFrom_any _ _ _ _ _ _ w hr0_2 hc0_2 ‹_›
  · cases h
end Go.Proofs.Ytjcokfdafingeaa.Q
