/- spec's l07Asked and LanesFrom, for nets whose fields lie in their kinds. -/
import Derived.Test.YtjcokfdafingeaaHSValid
import Derived.Test.YtjcokfdafingeaaHLanes
set_option linter.unusedVariables false
set_option linter.unusedSimpArgs false
namespace Go.Proofs.Ytjcokfdafingeaa.Q
open Go.RowKit Go.Proofs.YtjcokfdafingeaaW.PrintWords Go.Proofs.YtjcokfdafingeaaW.PrintLast Go.Proofs.YtjcokfdafingeaaW.PrintMore

/-- A net in memory, as spec's functions are given it. -/
structure NetAt (B : Nat) (s t : Int) (l : List S71) (w : World) : Prop where
  mk ::
  out : B < w.heap.size ∧ ∃ A c, l.length ≤ c ∧ w.cell? ⟨B, 0, none⟩ = some (.int .i8 s) ∧ w.cell? ⟨B, 1, none⟩ = some (.int .i16 t) ∧ w.cell? ⟨B, 2, none⟩ = some (.slice A l.length c) ∧ Kd.C k71 w A l.length l
theorem NetAt.below {B : Nat} {s t : Int} {l : List S71} {w w1 : World} (h : NetAt B s t l w) (hb : Below w.heap.size w w1) : NetAt B s t l w1 := by
  obtain ⟨h0, A, c, h1, h2, h3, h4, h5⟩ := h.out
  exact ⟨Nat.lt_of_lt_of_le h0 hb.size, A, c, h1, (hb.cell (p := ⟨B, 0, none⟩) h0).trans h2, (hb.cell (p := ⟨B, 1, none⟩) h0).trans h3, (hb.cell (p := ⟨B, 2, none⟩) h0).trans h4, Kd.C_below h5 hb⟩
theorem NetAt.new {s t : Int} {l : List S71} {w : World} {A : Option Addr} {c : Nat} (hr : Kd.C k71 w A l.length l) (hc : l.length ≤ c) (T : TypeId) :
    NetAt w.heap.size s t l (w.alloc (.cells #[.int .i8 s, .int .i16 t, .slice A l.length c] T)) :=
  ⟨by simp, A, c, hc, by go_simp, by go_simp, by go_simp, Kd.C_alloc hr _⟩
theorem NetAt.alloc {B : Nat} {s t : Int} {l : List S71} {w : World} (h : NetAt B s t l w) (o : Obj) : NetAt B s t l (w.alloc o) := h.below ((Below.refl _ _).alloc (Nat.le_refl _) o)
theorem own_lit0 (W : World) (base : Nat) (e : TypeId) (b : Nat) (hb : b = W.heap.size) (hbase : base ≤ W.heap.size) : (W.alloc (.cells #[] e)).ownsRow base e 1 (.slice (some ⟨b, 0, none⟩) 0 0) ([] : List Int).length (nums .i64 []) := by
  subst hb
  exact own_lit W base e .i64 [] hbase (by simp)
theorem l07Ok_at {B : Nat} {s t : Int} {l : List S71} {w : World} (h : NetAt B s t l w) (hok : okNet s t l = true) :
    Calls Try.prog 47 #[.pointer (some ⟨B, 0, none⟩)] w fun e w' => e = .returned (.bool (netB s t l)) ∧ Below w.heap.size w w' := by
  obtain ⟨h0, A, c, h1, h2, h3, h4, h5⟩ := h.out
  exact l07Ok_is B s t A c l w h0 h2 h3 h4 h5 h1 hok
theorem l07Station_at {B : Nat} {s t : Int} {l : List S71} {w : World} (h : NetAt B s t l w) (hok : okNet s t l = true) (x : Int) :
    Calls Try.prog 56 #[.pointer (some ⟨B, 0, none⟩), .int .i64 x] w fun e w' => e = .returned (.bool (inB x 0 (s - 1))) ∧ w = w' := by
  obtain ⟨h0, A, c, h1, h2, h3, h4, h5⟩ := h.out
  obtain ⟨⟨hs0, hs1, _, _⟩, _⟩ := okNet_iff.1 hok
  exact l07Station_is B s x _ w h2 hs0 hs1 rfl
theorem l07Asked_at {B : Nat} {s t : Int} {l : List S71} {w : World} (h : NetAt B s t l w) (hok : okNet s t l = true) (fine : Bool) :
    Calls Try.prog 55 #[.pointer (some ⟨B, 0, none⟩), .bool fine] w fun e w' => e = .returned (.int .i64 (codeB (netB s t l) fine)) ∧ Below w.heap.size w w' := by
  have HO := Aside0.mk hok
  clear hok
  go_enter Try.func55, Try.ntmps55
  go_wp2_with fail
  refine (l07Ok_at h HO.out).mono ?_
  rintro e w1 ⟨rfl, hb⟩
  have HB := Aside0.mk hb
  clear hb
  cases h1 : netB s t l with
  | false =>
    have H1 := Aside0.mk h1
    clear h1
    go_wp2
    go_ret
    exact ⟨by rw [H1.out]; rfl, HB.out⟩
  | true =>
    have H1 := Aside0.mk h1
    clear h1
    cases fine with
    | true =>
      go_wp2
      go_ret
      exact ⟨by rw [H1.out]; rfl, HB.out⟩
    | false =>
      go_wp2
      go_ret
      exact ⟨by rw [H1.out]; rfl, HB.out⟩
theorem netB_len {s t : Int} {l : List S71} (h1 : netB s t l = true) : l.length ≤ 20 := by
  simp only [netB, Bool.and_eq_true, decide_eq_true_eq] at h1
  exact h1.2.2.1
set_option maxHeartbeats 1000000 in
set_option maxRecDepth 100000 in
theorem sLanesFrom_any (s t : Int) (A : Option Addr) (c : Nat) (l : List S71) (st : Int) (w : World) (hr : Kd.C k71 w A l.length l) (hc : l.length ≤ c) (hok : okNet s t l = true) :
    Calls Try.prog 20 #[.agg #[.int .i8 s, .int .i16 t, .slice A l.length c], .int .i64 st] w fun e w' => ∃ v : Value, e = .returned (.tuple #[v, .int .i64 (lanesRes s t l st).2]) ∧ Kd.R (Kd.int .i64) 2 w' w.heap.size (fun _ => True) v (lanesRes s t l st).1 ∧ Below w.heap.size w w' := by
  obtain ⟨⟨hs0, hs1, ht0, ht1⟩, hl⟩ := okNet_iff.1 hok
  have HN := Aside0.mk (NetAt.new (s := s) (t := t) hr hc 31)
  have OK := Aside0.mk hok
  have HL := Aside0.mk hl
  clear hr hok hl
  go_enter Try.func20, Try.ntmps20
  go_wp2_with fail
  have hW : Aside0 (Below w.heap.size w (w.alloc (.cells #[.int .i8 s, .int .i16 t, .slice A l.length c] 31))) := ⟨(Below.refl _ _).alloc (Nat.le_refl _) _⟩
  have hz : Aside0 (w.heap.size + 1 = (w.alloc (.cells #[.int .i8 s, .int .i16 t, .slice A l.length c] 31)).heap.size) := ⟨by simp⟩
  generalize w.alloc (.cells #[.int .i8 s, .int .i16 t, .slice A l.length c] 31) = W at *
  refine (l07Station_at (HN.out.alloc _) OK.out st).mono ?_
  rintro e w' ⟨rfl, rfl⟩
  go_wp2_with fail
  refine (l07Asked_at (HN.out.alloc _) OK.out (inB st 0 (s - 1))).mono ?_
  rintro e w1 ⟨rfl, hb⟩
  have HO0 : Aside0 (w1.ownsRow W.heap.size 2 1 (.slice (some ⟨w.heap.size + 1, 0, none⟩) 0 0) ([] : List Int).length (nums .i64 [])) := ⟨pw_own_below (own_lit0 W W.heap.size 2 (w.heap.size + 1) hz.out (Nat.le_refl _)) hb⟩
  have hb1 : Aside0 (Below W.heap.size W w1) := ⟨below_call hb⟩
  clear hb
  cases h1 : netB s t l with
  | false =>
    have ER : Aside0 (lanesRes s t l st = ([], 1)) := ⟨by unfold lanesRes; rw [h1]; rfl⟩
    clear h1
    simp only [codeB, Bool.false_eq_true, if_false]
    go_wp2
    go_ret2
    rw [ER.out]
    exact ⟨_, rfl, Kd.R_lower (Kd.R_of_own HO0.out (fun _ _ => trivial)) hW.out.size, hW.out.trans (hb1.out.mono hW.out.size)⟩
  | true =>
    cases h2 : inB st 0 (s - 1) with
    | false =>
      have ER : Aside0 (lanesRes s t l st = ([], 2)) := ⟨by unfold lanesRes; rw [h1, h2]; rfl⟩
      clear h1 h2
      simp only [codeB, Bool.false_eq_true, if_false, if_true]
      go_wp2
      go_ret2
      rw [ER.out]
      exact ⟨_, rfl, Kd.R_lower (Kd.R_of_own HO0.out (fun _ _ => trivial)) hW.out.size, hW.out.trans (hb1.out.mono hW.out.size)⟩
    | true =>
      have ER : Aside0 (lanesRes s t l st = (lanesFrom st l 0, 0)) := ⟨by unfold lanesRes; rw [h1, h2]; rfl⟩
      have hlen : l.length ≤ 20 := netB_len h1
      clear h1 h2
      simp only [codeB, if_true]
      go_wp2
      go_loopg [6, 8] l.length (fun gg v6 v8 wr => ∃ (kk : Nat) (xs : List Int), kk ≤ l.length ∧ l.length - kk ≤ gg ∧ v8 = .int .i64 kk ∧ xs.length ≤ kk ∧ Aside0 (wr.ownsRow W.heap.size 2 1 v6 xs.length (nums .i64 xs)) ∧ Aside0 (Below W.heap.size W wr) ∧ Aside0 (xs ++ lanesFrom st (l.drop kk) kk = lanesFrom st l 0))
      case atStart => exact ⟨0, [], Nat.zero_le _, by omega, rfl, Nat.le_refl _, HO0, hb1, ⟨by rw [List.drop_zero]; rfl⟩⟩
      case round =>
        obtain ⟨kk, xs, hkk, hg, rfl, hxs, HO, BW, HA⟩ := hrel
        obtain ⟨hB, A', c', hc', d0, d1, d2, hr'⟩ := (HN.out.below BW.out).out
        have HR' := Aside0.mk hr'
        clear hr'
        by_cases hlt : kk < l.length
        · have hltz : (kk : Int) < (l.length : Int) := by omega
          obtain ⟨ad, e, hx0, hx1, hx2, hx3⟩ := at_T71 HR'.out (kk : Int) (by omega) hltz
          obtain ⟨a1, a2, a3, a4, a5, a6, a7, a8⟩ := okLane_iff.1 (HL.out (l.getD kk z71) (by rw [List.getD_eq_getElem?_getD, List.getElem?_eq_getElem hlt]; exact List.getElem_mem hlt))
          have hd := drop_cons_of' l z71 kk hlt
          simp only [rd_T71, Int.toNat_natCast] at hx0 hx1 hx2 hx3
          subst e
          generalize hy : l.getD kk z71 = y at hx0 hx1 hx2 hx3 a1 a2 a3 a4 a5 a6 a7 a8 hd
          obtain ⟨f, g, m, n⟩ := y
          simp only at a1 a2 a3 a4 a5 a6 a7 a8 hx0 hx1 hx2 hx3
          have HD : Aside0 (xs ++ (if f = st then (kk : Int) :: lanesFrom st (l.drop (kk + 1)) ((kk : Int) + 1) else lanesFrom st (l.drop (kk + 1)) ((kk : Int) + 1)) = lanesFrom st l 0) := ⟨by rw [← HA.out, hd]; rfl⟩
          clear hy hd HA
          cases h4 : (f == st) with
          | false =>
            have HD2 : Aside0 (xs ++ lanesFrom st (l.drop (kk + 1)) ((kk : Int) + 1) = lanesFrom st l 0) := ⟨by rw [← HD.out, if_neg (by simpa using h4)]⟩
            go_wp2
            go_roundg (l.length - (kk + 1))
            case measure => omega
            case rel => exact ⟨kk + 1, xs, by omega, by omega, by go_num, by omega, HO, BW, HD2⟩
          | true =>
            have HD2 : Aside0 ((xs ++ [(kk : Int)]) ++ lanesFrom st (l.drop (kk + 1)) ((kk : Int) + 1) = lanesFrom st l 0) := ⟨by rw [← HD.out, if_pos (by simpa using h4)]; simp⟩
            clear HD
            go_wp2_with (at_builtin; refine print_append_num (w0 := W) W.heap.size rfl (.tmp 33) (.tmp 35) 36 2 .i64 8 rfl Try.underlying36 infoI64 (by omega) _ xs (kk : Int) rfl (by go_simp) HO.out BW.out BW.out.size (by omega) ?_; intro v1 w2 hown1 hB1 hg1 hat1)
            have HO1 := Aside0.mk hown1
            have HB1 := Aside0.mk hB1
            clear hown1 hB1 hg1 hat1
            go_wp2
            go_roundg (l.length - (kk + 1))
            case measure => omega
            case rel => exact ⟨kk + 1, xs ++ [(kk : Int)], by omega, by omega, by go_num, by simp; omega, HO1, HB1, HD2⟩
        · have hltz : ¬ (kk : Int) < (l.length : Int) := by omega
          have hk : kk = l.length := by omega
          have HA2 : Aside0 (xs = lanesFrom st l 0) := ⟨by rw [← HA.out, List.drop_of_length_le (by omega)]; simp [lanesFrom]⟩
          clear HA
          subst hk
          go_wp2
          go_ret2
          rw [ER.out]
          refine ⟨_, rfl, ?_, hW.out.trans (BW.out.mono hW.out.size)⟩
          rw [← HA2.out]
          exact Kd.R_lower (Kd.R_of_own HO.out (fun _ _ => trivial)) hW.out.size
def spec_LanesFrom.f (a0_0 : Int) (a0_1 : Int) (l0_2 : List (S71)) (a1 : Int) : Option (List Int × Int) := if okNet a0_0 a0_1 l0_2 = true then some (lanesRes a0_0 a0_1 l0_2 a1) else none
theorem spec_LanesFrom.calls (a0_0 : Int) (a0_1 : Int) (A0_2 : Option Addr) (c0_2 : Nat) (l0_2 : List (S71)) (a1 : Int) (r1 : List Int) (r2 : Int) (w : World) (hr0_2 : Kd.C k71 w A0_2 l0_2.length l0_2) (hc0_2 : l0_2.length ≤ c0_2) (h : spec_LanesFrom.f a0_0 a0_1 l0_2 a1 = some (r1, r2)) :
    Calls Try.prog 20 #[.agg #[.int .i8 a0_0, .int .i16 a0_1, .slice A0_2 l0_2.length c0_2], .int .i64 a1] w fun e w' => ∃ v0_ : Value, e = .returned (.tuple #[v0_, .int .i64 r2]) ∧ Kd.R (Kd.int .i64) 2 w' w.heap.size (fun _ => True) v0_ r1 ∧ Below w.heap.size w w' := by
  unfold spec_LanesFrom.f at h
  split at h
  · injection h with h
    have h1 : (lanesRes a0_0 a0_1 l0_2 a1).1 = r1 := by rw [h]
    have h2 : (lanesRes a0_0 a0_1 l0_2 a1).2 = r2 := by rw [h]
    rw [← h1, ← h2]
    exact sLanesFrom_any _ _ _ _ _ _ w hr0_2 hc0_2 ‹_›
  · cases h
end Go.Proofs.Ytjcokfdafingeaa.Q
