/- spec's NetText: the text of a net that is valid, else none. -/
import Derived.Test.YtcekifhkbdjpdaaDoorTextN
import Derived.Test.YtcekifhkbdjpdaaDoorHSValid
import Derived.Lib.QuietBelow
import Derived.Deep.QuietTactic
set_option linter.unusedVariables false
set_option linter.unusedSimpArgs false
namespace Go.Proofs.YtcekifhkbdjpdaaDoor.Q
open Go.RowKit Go.Proofs.YtcekifhkbdjpdaaDoorW.PrintWords Go.Proofs.YtcekifhkbdjpdaaDoorW.PrintLast Go.Proofs.YtcekifhkbdjpdaaDoorW.PrintMore
/-- A lane's line. -/
def laneL (x : S81) : List UInt8 := Lib.itoa x.f0 ++ [45] ++ Lib.itoa x.f1 ++ [32] ++ Lib.itoa x.f2 ++ [45] ++ Lib.itoa x.f3 ++ [10]
def headL (s t : Int) : List UInt8 := Lib.itoa s ++ [32] ++ Lib.itoa t ++ [10]
def netL (s t : Int) (l : List S81) : List UInt8 := headL s t ++ (l.map laneL).flatten
/-- What the text asks of a net's numbers. -/
def smallNet (s t : Int) (l : List S81) : Prop := 0 ≤ s ∧ s ≤ 100 ∧ 0 ≤ t ∧ t ≤ 100 ∧ l.length ≤ 20 ∧ ∀ x ∈ l, 0 ≤ x.f0 ∧ x.f0 ≤ 100 ∧ 0 ≤ x.f1 ∧ x.f1 ≤ 100 ∧ 0 ≤ x.f2 ∧ x.f2 ≤ 100 ∧ 0 ≤ x.f3 ∧ x.f3 ≤ 100
theorem small_of (s t : Int) (l : List S81) (h : netB s t l = true) : smallNet s t l := by
  unfold netB at h
  rw [Bool.and_eq_true, Bool.and_eq_true, Bool.and_eq_true] at h
  obtain ⟨h1, h2, h3, h4⟩ := h
  have h1 := inB_true.1 h1
  have h2 := inB_true.1 h2
  have h3 := of_decide_eq_true h3
  refine ⟨by omega, by omega, by omega, by omega, h3, fun x hx => ?_⟩
  have h5 : l.any (laneBad s) = false := by simpa using h4
  have := List.any_eq_false.1 h5 x hx
  unfold laneBad at this
  have h6 : inB x.f0 0 (s - 1) = true ∧ inB x.f1 0 (s - 1) = true ∧ inB x.f2 1 x.f3 = true ∧ ¬ 40 < x.f3 := by
    cases ha : inB x.f0 0 (s - 1) <;> cases hb : inB x.f1 0 (s - 1) <;> cases hc : inB x.f2 1 x.f3 <;> simp [ha, hb, hc] at this ⊢
    exact this.2
  have ha := inB_true.1 h6.1
  have hb := inB_true.1 h6.2.1
  have hc := inB_true.1 h6.2.2.1
  have hd := h6.2.2.2
  omega
theorem dcall (n : Int) (h0 : 0 ≤ n) (h1 : n ≤ 1000000) (w : World) : Calls Tryd.prog 54 #[.int .i64 n] w fun e w' => e = .returned (.string (bs (Lib.itoa n))) ∧ Below w.heap.size w w' :=
  spec_Decimal.calls 11 n _ w (dec_is n h0 h1 11 (by omega))
theorem itoa_100 (n : Int) (h0 : 0 ≤ n) (h1 : n ≤ 100) : ∃ A : ByteArray, bs (Lib.itoa n) = A ∧ A.size ≤ 21 := ⟨_, rfl, by rw [bs_size]; exact itoa_small n h0 (by omega)⟩
theorem lane_small (x : S81) (h : 0 ≤ x.f0 ∧ x.f0 ≤ 100 ∧ 0 ≤ x.f1 ∧ x.f1 ≤ 100 ∧ 0 ≤ x.f2 ∧ x.f2 ≤ 100 ∧ 0 ≤ x.f3 ∧ x.f3 ≤ 100) : (laneL x).length ≤ 100 := by
  obtain ⟨a1, a2, a3, a4, a5, a6, a7, a8⟩ := h
  have := itoa_small x.f0 a1 (by omega)
  have := itoa_small x.f1 a3 (by omega)
  have := itoa_small x.f2 a5 (by omega)
  have := itoa_small x.f3 a7 (by omega)
  unfold laneL
  simp only [List.length_append, List.length_cons, List.length_nil]
  omega
theorem flat_all (l : List S81) (h : ∀ x ∈ l, (laneL x).length ≤ 100) : (l.map laneL).flatten.length ≤ 100 * l.length := by
  induction l with
  | nil => simp
  | cons x l ih =>
    have h1 := ih (fun y hy => h y (List.mem_cons_of_mem _ hy))
    have h2 := h x List.mem_cons_self
    simp only [List.map_cons, List.flatten_cons, List.length_append, List.length_cons]
    omega
theorem flat_small (l : List S81) (hl : l.length ≤ 20) (h : ∀ x ∈ l, 0 ≤ x.f0 ∧ x.f0 ≤ 100 ∧ 0 ≤ x.f1 ∧ x.f1 ≤ 100 ∧ 0 ≤ x.f2 ∧ x.f2 ≤ 100 ∧ 0 ≤ x.f3 ∧ x.f3 ≤ 100) (k : Nat) : ((l.take k).map laneL).flatten.length ≤ 2000 := by
  have := flat_all (l.take k) (fun x hx => lane_small x (h x (List.mem_of_mem_take hx)))
  have : (l.take k).length ≤ l.length := by rw [List.length_take]; omega
  omega
theorem lanes_next (h : List UInt8) (l : List S81) (k : Nat) (hk : k < l.length) : bs (h ++ ((l.take (k + 1)).map laneL).flatten) = bs (h ++ ((l.take k).map laneL).flatten) ++ bs (laneL (l.getD k z81)) := by
  rw [bs_add, List.take_add_one, List.getElem?_eq_getElem hk, List.getD_eq_getElem?_getD, List.getElem?_eq_getElem hk, List.map_append, List.flatten_append, List.append_assoc]
  simp only [Option.toList_some, List.map_cons, List.map_nil, List.flatten_cons, List.flatten_nil, List.append_nil, Option.getD_some]
set_option maxHeartbeats 4000000 in
theorem l07Text_is (B : Nat) (s t : Int) (A : Option Addr) (c : Nat) (l : List S81) (w : World) (hB : B < w.heap.size) (c0 : w.cell? ⟨B, 0, none⟩ = some (.int .i8 s)) (c1 : w.cell? ⟨B, 1, none⟩ = some (.int .i16 t)) (c2 : w.cell? ⟨B, 2, none⟩ = some (.slice A l.length c))
    (hr : Kd.C k81 w A l.length l) (hc : l.length ≤ c) (hok : smallNet s t l) :
    Calls Tryd.prog 40 #[.pointer (some ⟨B, 0, none⟩)] w fun e w' => e = .returned (.string (bs (netL s t l))) ∧ Below w.heap.size w w' := by
  obtain ⟨s0, s1, t0, t1, hl20, hl⟩ := hok
  have HR := Aside0.mk hr
  have HL := Aside0.mk hl
  clear hr hl
  obtain ⟨sA, eA, zA⟩ := itoa_100 s s0 s1
  obtain ⟨tA, eT, zT⟩ := itoa_100 t t0 t1
  have es : IntKind.i64.wrap s = s := by rw [i64_w]; unfold wrap64; omega
  have et : IntKind.i64.wrap t = t := by rw [i64_w]; unfold wrap64; omega
  have HS : ∀ d os, Calls Tryd.prog 54 #[.int .i64 s] (Go.Sort.grow (redrawn w d) os) fun e w' => e = .returned (.string sA) ∧ ∃ p : Regrown, w' = Go.Sort.grow (redrawn w p.d) p.os := fun d os => eA ▸ Calls.regrown_of (dcall s s0 (by omega) _)
  have HT : ∀ d os, Calls Tryd.prog 54 #[.int .i64 t] (Go.Sort.grow (redrawn w d) os) fun e w' => e = .returned (.string tA) ∧ ∃ p : Regrown, w' = Go.Sort.grow (redrawn w p.d) p.os := fun d os => eT ▸ Calls.regrown_of (dcall t t0 (by omega) _)
  have x0 := cell_regrown c0
  have x1 := cell_regrown c1
  have q1 : (9223372036854775807 < sA.size + 1) = False := eq_false (by omega)
  have q2 : (9223372036854775807 < sA.size + 1 + tA.size) = False := eq_false (by omega)
  have q3 : (9223372036854775807 < sA.size + 1 + tA.size + 1) = False := eq_false (by omega)
  go_enter Tryd.func40, Tryd.ntmps40
  go_wp2_with fail
  refine wp_region_quiet_below (by kernel_rfl) (by kernel_rfl) ?_
  repeat (quiet_step (first | (go_at_call 54; with_reducible exact HS _ _) | (go_at_call 54; with_reducible exact HT _ _)))
  refine wpQuiet_nil ?_
  intro _ hw'
  obtain ⟨⟨dq, osq⟩, hw''⟩ := hw'
  subst hw''
  have b1 := Aside0.mk (below_regrown w dq osq)
  clear HS HT x0 x1 q1 q2 q3 es et
  generalize Go.Sort.grow (redrawn w dq) osq = w1 at *
  have EH : Aside0 (sA ++ (⟨#[32]⟩ : ByteArray) ++ tA ++ (⟨#[10]⟩ : ByteArray) = bs (headL s t)) := ⟨by
    rw [← eA, ← eT, show (⟨#[32]⟩ : ByteArray) = bs [32] from rfl, show (⟨#[10]⟩ : ByteArray) = bs [10] from rfl]
    simp only [bs_add]
    rfl⟩
  have ZH : Aside0 ((headL s t).length ≤ 60) := ⟨by
    have h1 := zA; have h2 := zT
    rw [← eA, bs_size] at h1
    rw [← eT, bs_size] at h2
    unfold headL
    simp only [List.length_append, List.length_cons, List.length_nil]
    omega⟩
  clear eA eT zA zT
  go_wp2_with fail
  have C2 := Aside0.mk c2
  clear c0 c1 c2
  go_loopg [3, 4] l.length (fun gg v3 v4 wr => ∃ kk : Nat, kk ≤ l.length ∧ l.length - kk ≤ gg ∧ v4 = .int .i64 kk ∧ v3 = .string (bs (headL s t ++ ((l.take kk).map laneL).flatten)) ∧ Aside0 (Below w.heap.size w wr))
  case atStart => exact ⟨0, Nat.zero_le _, by omega, rfl, by rw [EH.out, List.take_zero]; simp, ⟨b1.out⟩⟩
  case round =>
    obtain ⟨kk, hkk, hg, rfl, rfl, BW⟩ := hrel
    have d2 := (BW.out.cell (p := ⟨B, 2, none⟩) hB).trans C2.out
    have hBW : B < wr.heap.size := Nat.lt_of_lt_of_le hB BW.out.size
    by_cases hlt : kk < l.length
    · have hltz : (kk : Int) < (l.length : Int) := by omega
      obtain ⟨ad, e, hx0, hx1, hx2, hx3⟩ := at_T81 (Kd.C_below HR.out BW.out) (kk : Int) (by omega) hltz
      obtain ⟨a1, a2, a3, a4, a5, a6, a7, a8⟩ := HL.out (l.getD kk z81) (by rw [List.getD_eq_getElem?_getD, List.getElem?_eq_getElem hlt]; exact List.getElem_mem hlt)
      simp only [rd_T81, Int.toNat_natCast] at hx0 hx1 hx2 hx3
      subst e
      obtain ⟨S, hS⟩ : ∃ S : ByteArray, S = bs (headL s t ++ ((l.take kk).map laneL).flatten) := ⟨_, rfl⟩
      have EN : Aside0 (bs (headL s t ++ ((l.take (kk + 1)).map laneL).flatten) = S ++ bs (laneL (l.getD kk z81))) := ⟨by rw [hS]; exact lanes_next _ l kk hlt⟩
      have hS0 : S.size ≤ 10000 := by
        rw [hS, bs_size, List.length_append]
        have := flat_small l hl20 HL.out kk
        have := ZH.out
        omega
      rw [← hS]
      clear hS
      generalize hy : l.getD kk z81 = y at hx0 hx1 hx2 hx3 a1 a2 a3 a4 a5 a6 a7 a8 EN
      clear hy
      obtain ⟨f, g, m, n⟩ := y
      simp only at a1 a2 a3 a4 a5 a6 a7 a8 hx0 hx1 hx2 hx3
      obtain ⟨fA, eF, zF⟩ := itoa_100 f a1 a2
      obtain ⟨gA, eG, zG⟩ := itoa_100 g a3 a4
      obtain ⟨mA, eM, zM⟩ := itoa_100 m a5 a6
      obtain ⟨nA, eN, zN⟩ := itoa_100 n a7 a8
      have ef : IntKind.i64.wrap f = f := by rw [i64_w]; unfold wrap64; omega
      have eg : IntKind.i64.wrap g = g := by rw [i64_w]; unfold wrap64; omega
      have em : IntKind.i64.wrap m = m := by rw [i64_w]; unfold wrap64; omega
      have en : IntKind.i64.wrap n = n := by rw [i64_w]; unfold wrap64; omega
      have q1 : (9223372036854775807 < fA.size + 1) = False := eq_false (by omega)
      have q2 : (9223372036854775807 < fA.size + 1 + gA.size) = False := eq_false (by omega)
      have q3 : (9223372036854775807 < fA.size + 1 + gA.size + 1) = False := eq_false (by omega)
      have q4 : (9223372036854775807 < fA.size + 1 + gA.size + 1 + mA.size) = False := eq_false (by omega)
      have q5 : (9223372036854775807 < fA.size + 1 + gA.size + 1 + mA.size + 1) = False := eq_false (by omega)
      have q6 : (9223372036854775807 < fA.size + 1 + gA.size + 1 + mA.size + 1 + nA.size) = False := eq_false (by omega)
      have q7 : (9223372036854775807 < fA.size + 1 + gA.size + 1 + mA.size + 1 + nA.size + 1) = False := eq_false (by omega)
      have q8 : (9223372036854775807 < S.size + (fA.size + 1 + gA.size + 1 + mA.size + 1 + nA.size + 1)) = False := eq_false (by omega)
      go_wp2_with fail
      have y0 : (wr.alloc (.cells #[.int .i8 f, .int .i8 g, .int .i16 m, .int .i16 n] 81)).cell? ⟨wr.heap.size, 0, none⟩ = some (.int .i8 f) := by go_simp
      have y1 : (wr.alloc (.cells #[.int .i8 f, .int .i8 g, .int .i16 m, .int .i16 n] 81)).cell? ⟨wr.heap.size, 1, none⟩ = some (.int .i8 g) := by go_simp
      have y2 : (wr.alloc (.cells #[.int .i8 f, .int .i8 g, .int .i16 m, .int .i16 n] 81)).cell? ⟨wr.heap.size, 2, none⟩ = some (.int .i16 m) := by go_simp
      have y3 : (wr.alloc (.cells #[.int .i8 f, .int .i8 g, .int .i16 m, .int .i16 n] 81)).cell? ⟨wr.heap.size, 3, none⟩ = some (.int .i16 n) := by go_simp
      have BW2 : Aside0 (Below w.heap.size w (wr.alloc (.cells #[.int .i8 f, .int .i8 g, .int .i16 m, .int .i16 n] 81))) := ⟨BW.out.alloc BW.out.size _⟩
      clear d2 hx0 hx1 hx2 hx3
      generalize wr.alloc (.cells #[.int .i8 f, .int .i8 g, .int .i16 m, .int .i16 n] 81) = W at *
      have x0 := cell_regrown y0
      have x1 := cell_regrown y1
      have x2 := cell_regrown y2
      have x3 := cell_regrown y3
      have HF : ∀ d os, Calls Tryd.prog 54 #[.int .i64 f] (Go.Sort.grow (redrawn W d) os) fun e w' => e = .returned (.string fA) ∧ ∃ p : Regrown, w' = Go.Sort.grow (redrawn W p.d) p.os := fun d os => eF ▸ Calls.regrown_of (dcall f a1 (by omega) _)
      have HG : ∀ d os, Calls Tryd.prog 54 #[.int .i64 g] (Go.Sort.grow (redrawn W d) os) fun e w' => e = .returned (.string gA) ∧ ∃ p : Regrown, w' = Go.Sort.grow (redrawn W p.d) p.os := fun d os => eG ▸ Calls.regrown_of (dcall g a3 (by omega) _)
      have HM : ∀ d os, Calls Tryd.prog 54 #[.int .i64 m] (Go.Sort.grow (redrawn W d) os) fun e w' => e = .returned (.string mA) ∧ ∃ p : Regrown, w' = Go.Sort.grow (redrawn W p.d) p.os := fun d os => eM ▸ Calls.regrown_of (dcall m a5 (by omega) _)
      have HN : ∀ d os, Calls Tryd.prog 54 #[.int .i64 n] (Go.Sort.grow (redrawn W d) os) fun e w' => e = .returned (.string nA) ∧ ∃ p : Regrown, w' = Go.Sort.grow (redrawn W p.d) p.os := fun d os => eN ▸ Calls.regrown_of (dcall n a7 (by omega) _)
      have EL : Aside0 (fA ++ (⟨#[45]⟩ : ByteArray) ++ gA ++ (⟨#[32]⟩ : ByteArray) ++ mA ++ (⟨#[45]⟩ : ByteArray) ++ nA ++ (⟨#[10]⟩ : ByteArray) = bs (laneL ⟨f, g, m, n⟩)) := ⟨by
        rw [← eF, ← eG, ← eM, ← eN, show (⟨#[32]⟩ : ByteArray) = bs [32] from rfl, show (⟨#[10]⟩ : ByteArray) = bs [10] from rfl, show (⟨#[45]⟩ : ByteArray) = bs [45] from rfl]
        simp only [bs_add]
        rfl⟩
      clear y0 y1 y2 y3 eF eG eM eN
      refine wp_region_quiet_below (by kernel_rfl) (by kernel_rfl) ?_
      repeat (quiet_step (first | (go_at_call 54; with_reducible exact HF _ _) | (go_at_call 54; with_reducible exact HG _ _) | (go_at_call 54; with_reducible exact HM _ _) | (go_at_call 54; with_reducible exact HN _ _)))
      refine wpQuiet_nil ?_
      intro _ hw'
      obtain ⟨⟨dq, osq⟩, hw''⟩ := hw'
      subst hw''
      have BW3 : Aside0 (Below w.heap.size w (Go.Sort.grow (redrawn W dq) osq)) := ⟨BW2.out.trans ((below_regrown W dq osq).mono BW2.out.size)⟩
      clear HF HG HM HN x0 x1 x2 x3 q1 q2 q3 q4 q5 q6 q7 q8 ef eg em en
      generalize Go.Sort.grow (redrawn W dq) osq = W3 at *
      go_wp2
      go_roundg (l.length - (kk + 1))
      case measure => omega
      case rel => exact ⟨kk + 1, by omega, by omega, by go_num, by rw [EN.out, ← EL.out], BW3⟩
    · have hltz : ¬ (kk : Int) < (l.length : Int) := by omega
      have hk : kk = l.length := by omega
      subst hk
      go_wp2
      go_ret
      exact ⟨rfl, BW.out⟩
def spec_NetText.f (a0_0 : Int) (a0_1 : Int) (l0_2 : List (S81)) : Option (ByteArray) := if okNet a0_0 a0_1 l0_2 = true then some (if netB a0_0 a0_1 l0_2 = true then bs (netL a0_0 a0_1 l0_2) else ⟨#[]⟩) else none
theorem spec_NetText.calls (a0_0 : Int) (a0_1 : Int) (A0_2 : Option Addr) (c0_2 : Nat) (l0_2 : List (S81)) (r : ByteArray) (w : World) (hr0_2 : Kd.C k81 w A0_2 l0_2.length l0_2) (hc0_2 : l0_2.length ≤ c0_2) (h : spec_NetText.f a0_0 a0_1 l0_2 = some r) :
    Calls Tryd.prog 17 #[.agg #[.int .i8 a0_0, .int .i16 a0_1, .slice A0_2 l0_2.length c0_2]] w fun e w' => e = .returned (.string r) ∧ Below w.heap.size w w' := by
  unfold spec_NetText.f at h
  split at h
  · rename_i hok
    injection h with h
    have OK := Aside0.mk hok
    have HR := Aside0.mk hr0_2
    clear hok hr0_2
    by_cases hn : netB a0_0 a0_1 l0_2 = true
    · rw [if_pos hn] at h
      subst h
      have HN := Aside0.mk hn
      go_enter Tryd.func17, Tryd.ntmps17
      go_wp2_with fail
      refine (l07Ok_is w.heap.size a0_0 a0_1 A0_2 c0_2 l0_2 _ (by simp) (by go_simp) (by go_simp) (by go_simp) (Kd.C_alloc HR.out _) hc0_2 OK.out).mono ?_
      rintro e w1 ⟨rfl, hb⟩
      rw [hn]
      have y0 := (hb.cell (p := ⟨w.heap.size, 0, none⟩) (by simp)).trans (show _ = some (.int .i8 a0_0) by go_simp)
      have y1 := (hb.cell (p := ⟨w.heap.size, 1, none⟩) (by simp)).trans (show _ = some (.int .i16 a0_1) by go_simp)
      have y2 := (hb.cell (p := ⟨w.heap.size, 2, none⟩) (by simp)).trans (show _ = some (.slice A0_2 l0_2.length c0_2) by go_simp)
      have hsz : w.heap.size < w1.heap.size := Nat.lt_of_lt_of_le (by simp) hb.size
      have HB := Aside0.mk (below_call hb)
      clear hb hn
      go_wp2_with (go_at_call 40; refine (l07Text_is w.heap.size a0_0 a0_1 A0_2 c0_2 l0_2 _ hsz y0 y1 y2 (Kd.C_below HR.out HB.out) hc0_2 (small_of _ _ _ HN.out)).mono ?_; rintro e w2 ⟨rfl, hb2⟩)
      go_ret
      exact ⟨rfl, HB.out.trans (hb2.mono HB.out.size)⟩
    · have hn' : netB a0_0 a0_1 l0_2 = false := by simpa using hn
      rw [if_neg hn] at h
      subst h
      clear hn
      go_enter Tryd.func17, Tryd.ntmps17
      go_wp2_with fail
      refine (l07Ok_is w.heap.size a0_0 a0_1 A0_2 c0_2 l0_2 _ (by simp) (by go_simp) (by go_simp) (by go_simp) (Kd.C_alloc HR.out _) hc0_2 OK.out).mono ?_
      rintro e w1 ⟨rfl, hb⟩
      rw [hn']
      have HB := Aside0.mk (below_call hb)
      clear hb hn'
      go_wp2
      go_ret
      exact ⟨rfl, HB.out⟩
  · cases h
end Go.Proofs.YtcekifhkbdjpdaaDoor.Q
