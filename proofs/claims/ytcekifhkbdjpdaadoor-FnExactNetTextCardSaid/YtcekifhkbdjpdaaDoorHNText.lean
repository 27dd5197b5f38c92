/- impl's NetText: the text of a net that is valid, else none; strings.Builder by the shelf's contracts. -/
import Derived.Test.YtcekifhkbdjpdaaDoorHSNText
import Derived.Test.YtcekifhkbdjpdaaDoorQuietEnd
set_option linter.unusedVariables false
set_option linter.unusedSimpArgs false
namespace Go.Proofs.YtcekifhkbdjpdaaDoor.Q
open Go.RowKit Go.Proofs.YtcekifhkbdjpdaaDoorW.PrintWords Go.Proofs.YtcekifhkbdjpdaaDoorW.PrintLast Go.Proofs.YtcekifhkbdjpdaaDoorW.PrintMore
theorem builder_below {T e : TypeId} {B b : Nat} {bs : List Value} {w w' : World} (h : Lib.IsBuilder T e B b bs w) (hb : Below w.heap.size w w') : Lib.IsBuilder T e B b bs w' := by
  have key : ∀ p, Lib.BuilderAt T e B b p bs w → Lib.BuilderAt T e B b p bs w' := by
    intro p h
    have hlt := h.lt
    obtain ⟨h1, v, h2, h3, h4⟩ := h
    exact ⟨h1, v, by rw [hb.block b hlt]; exact h2, pw_own_below h3 hb, h4⟩
  exact h.elim (fun h => .inl (key _ h)) (fun h => .inr (key _ h))
theorem tab_regrown {w : World} (h : Tab w) (d : Nat) (os : Array Obj) : Tab (Go.Sort.grow (redrawn w d) os) := h.below (below_regrown w d os)
theorem icall (n : Int) (h0 : 0 ≤ n) (h1 : n ≤ 1000000) (w : World) (ht : Tab w) : Calls Tryd.prog 29 #[.int .i64 n] w fun e w' => e = .returned (.string (bs (Lib.itoa n))) ∧ Below w.heap.size w w' :=
  impl_decimal.calls n _ w ht (decimal_is n h0 h1)
theorem icall_grown (n : Int) (h0 : 0 ≤ n) (h1 : n ≤ 1000000) {A : ByteArray} (e : bs (Lib.itoa n) = A) (w : World) (ht : Tab w) (d : Nat) (os : Array Obj) :
    Calls Tryd.prog 29 #[.int .i64 n] (Go.Sort.grow (redrawn w d) os) fun e w' => e = .returned (.string A) ∧ ∃ p : Regrown, w' = Go.Sort.grow (redrawn w p.d) p.os :=
  e ▸ Calls.regrown_of (icall n h0 h1 _ (tab_regrown ht d os))
theorem wrote (l : List UInt8) (s : List UInt8) : Lib.byteCells l ++ Lib.strCells (bs s) = Lib.byteCells (l ++ s) := by
  rw [Lib.strCells_eq, bs_bytes, Lib.byteCells_append]
theorem lanes_next' (h : List UInt8) (l : List S81) (k : Nat) (hk : k < l.length) : h ++ ((l.take (k + 1)).map laneL).flatten = h ++ ((l.take k).map laneL).flatten ++ laneL (l.getD k z81) := by
  rw [List.take_add_one, List.getElem?_eq_getElem hk, List.getD_eq_getElem?_getD, List.getElem?_eq_getElem hk, List.map_append, List.flatten_append, List.append_assoc]
  simp only [Option.toList_some, List.map_cons, List.map_nil, List.flatten_cons, List.flatten_nil, List.append_nil, Option.getD_some]
set_option maxHeartbeats 8000000 in
theorem NetText_is (s t : Int) (A : Option Addr) (c : Nat) (l : List S81) (w : World) (ht : Tab w) (hr : Kd.C k81 w A l.length l) (hc : l.length ≤ c) (hok : okNet s t l = true) (hn : netB s t l = true) :
    Calls Tryd.prog 19 #[.agg #[.int .i8 s, .int .i16 t, .slice A l.length c]] w fun e w' => e = .returned (.string (bs (netL s t l))) ∧ Below w.heap.size w w' := by
  obtain ⟨s0, s1, t0, t1, hl20, hl⟩ := small_of s t l hn
  have OK := Aside0.mk hok
  have HR := Aside0.mk hr
  have HL := Aside0.mk hl
  have HTB := Aside0.mk ht
  clear hok hr hl ht
  go_enter Tryd.func19, Tryd.ntmps19
  go_wp2_with fail
  refine (ValidNet_any s t A c l _ (Kd.C_alloc HR.out _) hc OK.out).mono ?_
  rintro e w1 ⟨rfl, hb⟩
  rw [hn]
  have c0 := (hb.cell (p := ⟨w.heap.size, 0, none⟩) (by simp)).trans (show _ = some (.int .i8 s) by go_simp)
  have c1 := (hb.cell (p := ⟨w.heap.size, 1, none⟩) (by simp)).trans (show _ = some (.int .i16 t) by go_simp)
  have c2 := (hb.cell (p := ⟨w.heap.size, 2, none⟩) (by simp)).trans (show _ = some (.slice A l.length c) by go_simp)
  have hsz : w.heap.size < w1.heap.size := Nat.lt_of_lt_of_le (by simp) hb.size
  have HB1 := Aside0.mk (below_call hb)
  have HT1 := Aside0.mk (HTB.out.below HB1.out)
  clear hb hn HTB
  go_wp2_with fail
  have y0 : (w1.alloc (.cells #[.pointer none, .slice none 0 0] 75)).cell? ⟨w.heap.size, 0, none⟩ = some (.int .i8 s) := (((Below.refl _ w1).alloc (Nat.le_refl _) _).cell hsz).trans c0
  have y1 : (w1.alloc (.cells #[.pointer none, .slice none 0 0] 75)).cell? ⟨w.heap.size, 1, none⟩ = some (.int .i16 t) := (((Below.refl _ w1).alloc (Nat.le_refl _) _).cell hsz).trans c1
  have BW2 : Aside0 (Below w1.heap.size w1 (w1.alloc (.cells #[.pointer none, .slice none 0 0] 75))) := ⟨(Below.refl _ w1).alloc (Nat.le_refl _) _⟩
  have IB2 := Aside0.mk (Lib.fresh_isBuilder 75 5 w1)
  have C2 := Aside0.mk c2
  have hsz2 : w1.heap.size ≤ (w1.alloc (.cells #[.pointer none, .slice none 0 0] 75)).heap.size := BW2.out.size
  clear c0 c1 c2
  generalize w1.alloc (.cells #[.pointer none, .slice none 0 0] 75) = W at *
  have HT2 := HT1.out.below BW2.out
  obtain ⟨sA, eA, zA⟩ := itoa_100 s s0 s1
  obtain ⟨tA, eT, zT⟩ := itoa_100 t t0 t1
  have es : IntKind.i64.wrap s = s := by rw [i64_w]; unfold wrap64; omega
  have et : IntKind.i64.wrap t = t := by rw [i64_w]; unfold wrap64; omega
  have HS := icall_grown s s0 (by omega) eA W HT2
  have HT := icall_grown t t0 (by omega) eT W HT2
  have EH : Aside0 (sA ++ (⟨#[32]⟩ : ByteArray) ++ tA ++ (⟨#[10]⟩ : ByteArray) = bs (headL s t)) := ⟨by
    rw [← eA, ← eT, show (⟨#[32]⟩ : ByteArray) = bs [32] from rfl, show (⟨#[10]⟩ : ByteArray) = bs [10] from rfl]
    simp only [bs_add]
    rfl⟩
  have ZH : Aside0 ((headL s t).length ≤ 60) := ⟨by
    have h1 := zA; have h2 := zT
    rw [← eA, bs_size] at h1
    rw [← eT, bs_size] at h2
    unfold headL
    simp only [List.length_append, List.length_cons, List.length_nil]
    omega⟩
  have x0 := cell_regrown y0
  have x1 := cell_regrown y1
  have q1 : (9223372036854775807 < sA.size + 1) = False := eq_false (by omega)
  have q2 : (9223372036854775807 < sA.size + 1 + tA.size) = False := eq_false (by omega)
  have q3 : (9223372036854775807 < sA.size + 1 + tA.size + 1) = False := eq_false (by omega)
  clear eA eT zA zT y0 y1 HT2
  refine wp_region_quiet_end_at 11 rfl (by kernel_rfl) (by kernel_rfl) (by kernel_rfl) (by kernel_rfl) ?_
  simp only [List.take_succ_cons, List.take_zero]
  repeat (quiet_step (first | (go_at_call 29; with_reducible exact HS _ _) | (go_at_call 29; with_reducible exact HT _ _)))
  refine wpQuiet_nil ?_
  intro _ hw'
  obtain ⟨⟨dq, osq⟩, hw''⟩ := hw'
  subst hw''
  have BR := below_regrown W dq osq
  have BW3 : Aside0 (Below w1.heap.size w1 (Go.Sort.grow (redrawn W dq) osq)) := ⟨BW2.out.trans (BR.mono hsz2)⟩
  have IB3 := Aside0.mk (builder_below IB2.out BR)
  have hsz3 : w1.heap.size ≤ (Go.Sort.grow (redrawn W dq) osq).heap.size := BW3.out.size
  clear HS HT x0 x1 q1 q2 q3 es et BR BW2 IB2
  generalize Go.Sort.grow (redrawn W dq) osq = W3 at *
  rw [EH.out]
  have hlen0 : ([] : List Value).length + (bs (headL s t)).size ≤ 140737488355328 := by rw [bs_size]; have := ZH.out; simp only [List.length_nil]; omega
  have HW := Tryd.Builder_WriteString w1.heap.size w1.heap.size [] (bs (headL s t)) W3 IB3.out hlen0 hsz3
  clear hlen0
  go_wp2_with (go_at_call 43; refine HW.mono ?_; rintro e W4 ⟨rfl, hba, hb4⟩; have BA4 := Aside0.mk hba; have BW4 : Aside0 (Below w1.heap.size w1 W4) := ⟨BW3.out.trans hb4⟩; have d2 := (BW4.out.cell (p := ⟨w.heap.size, 2, none⟩) hsz).trans C2.out; clear hba hb4)
  have IB4 : Aside0 (Lib.IsBuilder 75 5 w1.heap.size w1.heap.size (Lib.byteCells (headL s t)) W4) := ⟨Or.inr (by have := BA4.out; rwa [show ([] : List Value) = Lib.byteCells [] from rfl, wrote, List.nil_append] at this)⟩
  clear BA4 HW IB3 BW3 hsz3 d2
  go_loopg [25] l.length (fun gg v25 wr => ∃ kk : Nat, kk ≤ l.length ∧ l.length - kk ≤ gg ∧ v25 = .int .i64 kk ∧ Aside0 (Below w1.heap.size w1 wr) ∧ Aside0 (Lib.IsBuilder 75 5 w1.heap.size w1.heap.size (Lib.byteCells (headL s t ++ ((l.take kk).map laneL).flatten)) wr))
  case atStart => exact ⟨0, Nat.zero_le _, by omega, rfl, BW4, ⟨by rw [List.take_zero]; simpa using IB4.out⟩⟩
  case round =>
    obtain ⟨kk, hkk, hg, rfl, BW, IB⟩ := hrel
    have hsr : w1.heap.size ≤ wr.heap.size := BW.out.size
    have BWW : Aside0 (Below w.heap.size w wr) := ⟨HB1.out.trans (BW.out.mono HB1.out.size)⟩
    by_cases hlt : kk < l.length
    · have hltz : (kk : Int) < (l.length : Int) := by omega
      obtain ⟨ad, e, hx0, hx1, hx2, hx3⟩ := at_T81 (Kd.C_below HR.out BWW.out) (kk : Int) (by omega) hltz
      obtain ⟨a1, a2, a3, a4, a5, a6, a7, a8⟩ := HL.out (l.getD kk z81) (by rw [List.getD_eq_getElem?_getD, List.getElem?_eq_getElem hlt]; exact List.getElem_mem hlt)
      simp only [rd_T81, Int.toNat_natCast] at hx0 hx1 hx2 hx3
      subst e
      obtain ⟨T, hT⟩ : ∃ T : List UInt8, T = headL s t ++ ((l.take kk).map laneL).flatten := ⟨_, rfl⟩
      have EN : Aside0 (headL s t ++ ((l.take (kk + 1)).map laneL).flatten = T ++ laneL (l.getD kk z81)) := ⟨by rw [hT]; exact lanes_next' _ l kk hlt⟩
      have hT0 : T.length ≤ 10000 := by
        rw [hT, List.length_append]
        have := flat_small l hl20 HL.out kk
        have := ZH.out
        omega
      rw [← hT] at IB
      clear hT
      generalize hy : l.getD kk z81 = y at hx0 hx1 hx2 hx3 a1 a2 a3 a4 a5 a6 a7 a8 EN
      clear hy
      obtain ⟨f, g, m, n⟩ := y
      simp only at a1 a2 a3 a4 a5 a6 a7 a8 hx0 hx1 hx2 hx3
      go_wp2_with fail
      have y0 : (wr.alloc (.cells #[.int .i8 f, .int .i8 g, .int .i16 m, .int .i16 n] 81)).cell? ⟨wr.heap.size, 0, none⟩ = some (.int .i8 f) := by go_simp
      have y1 : (wr.alloc (.cells #[.int .i8 f, .int .i8 g, .int .i16 m, .int .i16 n] 81)).cell? ⟨wr.heap.size, 1, none⟩ = some (.int .i8 g) := by go_simp
      have y2 : (wr.alloc (.cells #[.int .i8 f, .int .i8 g, .int .i16 m, .int .i16 n] 81)).cell? ⟨wr.heap.size, 2, none⟩ = some (.int .i16 m) := by go_simp
      have y3 : (wr.alloc (.cells #[.int .i8 f, .int .i8 g, .int .i16 m, .int .i16 n] 81)).cell? ⟨wr.heap.size, 3, none⟩ = some (.int .i16 n) := by go_simp
      have BA : Below wr.heap.size wr (wr.alloc (.cells #[.int .i8 f, .int .i8 g, .int .i16 m, .int .i16 n] 81)) := (Below.refl _ wr).alloc (Nat.le_refl _) _
      have BW5 : Aside0 (Below w1.heap.size w1 (wr.alloc (.cells #[.int .i8 f, .int .i8 g, .int .i16 m, .int .i16 n] 81))) := ⟨BW.out.trans (BA.mono hsr)⟩
      have IB5 := Aside0.mk (builder_below IB.out BA)
      have hs5 : w1.heap.size ≤ (wr.alloc (.cells #[.int .i8 f, .int .i8 g, .int .i16 m, .int .i16 n] 81)).heap.size := BW5.out.size
      clear hx0 hx1 hx2 hx3 BA IB
      generalize wr.alloc (.cells #[.int .i8 f, .int .i8 g, .int .i16 m, .int .i16 n] 81) = V at *
      have HTV := HT1.out.below BW5.out
      obtain ⟨fA, eF, zF⟩ := itoa_100 f a1 a2
      obtain ⟨gA, eG, zG⟩ := itoa_100 g a3 a4
      obtain ⟨mA, eM, zM⟩ := itoa_100 m a5 a6
      obtain ⟨nA, eN, zN⟩ := itoa_100 n a7 a8
      have ef : IntKind.i64.wrap f = f := by rw [i64_w]; unfold wrap64; omega
      have eg : IntKind.i64.wrap g = g := by rw [i64_w]; unfold wrap64; omega
      have em : IntKind.i64.wrap m = m := by rw [i64_w]; unfold wrap64; omega
      have en : IntKind.i64.wrap n = n := by rw [i64_w]; unfold wrap64; omega
      have q1 : (9223372036854775807 < fA.size + 1) = False := eq_false (by omega)
      have q2 : (9223372036854775807 < fA.size + 1 + gA.size) = False := eq_false (by omega)
      have q3 : (9223372036854775807 < fA.size + 1 + gA.size + 1) = False := eq_false (by omega)
      have q4 : (9223372036854775807 < fA.size + 1 + gA.size + 1 + mA.size) = False := eq_false (by omega)
      have q5 : (9223372036854775807 < fA.size + 1 + gA.size + 1 + mA.size + 1) = False := eq_false (by omega)
      have q6 : (9223372036854775807 < fA.size + 1 + gA.size + 1 + mA.size + 1 + nA.size) = False := eq_false (by omega)
      have q7 : (9223372036854775807 < fA.size + 1 + gA.size + 1 + mA.size + 1 + nA.size + 1) = False := eq_false (by omega)
      have x0 := cell_regrown y0
      have x1 := cell_regrown y1
      have x2 := cell_regrown y2
      have x3 := cell_regrown y3
      have HF := icall_grown f a1 (by omega) eF V HTV
      have HG := icall_grown g a3 (by omega) eG V HTV
      have HM := icall_grown m a5 (by omega) eM V HTV
      have HN := icall_grown n a7 (by omega) eN V HTV
      have EL : Aside0 (fA ++ (⟨#[45]⟩ : ByteArray) ++ gA ++ (⟨#[32]⟩ : ByteArray) ++ mA ++ (⟨#[45]⟩ : ByteArray) ++ nA ++ (⟨#[10]⟩ : ByteArray) = bs (laneL ⟨f, g, m, n⟩)) := ⟨by
        rw [← eF, ← eG, ← eM, ← eN, show (⟨#[32]⟩ : ByteArray) = bs [32] from rfl, show (⟨#[10]⟩ : ByteArray) = bs [10] from rfl, show (⟨#[45]⟩ : ByteArray) = bs [45] from rfl]
        simp only [bs_add]
        rfl⟩
      have ZL : (laneL ⟨f, g, m, n⟩).length ≤ 100 := lane_small _ ⟨a1, a2, a3, a4, a5, a6, a7, a8⟩
      clear y0 y1 y2 y3 eF eG eM eN HTV
      refine wp_region_quiet_end_at 23 rfl (by kernel_rfl) (by kernel_rfl) (by kernel_rfl) (by kernel_rfl) ?_
      simp only [List.take_succ_cons, List.take_zero]
      repeat (quiet_step (first | (go_at_call 29; with_reducible exact HF _ _) | (go_at_call 29; with_reducible exact HG _ _) | (go_at_call 29; with_reducible exact HM _ _) | (go_at_call 29; with_reducible exact HN _ _)))
      refine wpQuiet_nil ?_
      intro _ hw'
      obtain ⟨⟨dq, osq⟩, hw''⟩ := hw'
      subst hw''
      have BR := below_regrown V dq osq
      have BW6 : Aside0 (Below w1.heap.size w1 (Go.Sort.grow (redrawn V dq) osq)) := ⟨BW5.out.trans (BR.mono hs5)⟩
      have IB6 := Aside0.mk (builder_below IB5.out BR)
      have hs6 : w1.heap.size ≤ (Go.Sort.grow (redrawn V dq) osq).heap.size := BW6.out.size
      clear HF HG HM HN x0 x1 x2 x3 q1 q2 q3 q4 q5 q6 q7 ef eg em en BR BW5 IB5
      generalize Go.Sort.grow (redrawn V dq) osq = V3 at *
      rw [EL.out]
      have HW := Tryd.Builder_WriteString w1.heap.size w1.heap.size (Lib.byteCells T) (bs (laneL ⟨f, g, m, n⟩)) V3 IB6.out (by rw [bs_size, Lib.byteCells_length]; omega) hs6
      go_wp2_with (go_at_call 43; refine HW.mono ?_; rintro e V4 ⟨rfl, hba, hb4⟩; have BA4 := Aside0.mk hba; have BW7 : Aside0 (Below w1.heap.size w1 V4) := ⟨BW6.out.trans hb4⟩; clear hba hb4)
      have IB7 : Aside0 (Lib.IsBuilder 75 5 w1.heap.size w1.heap.size (Lib.byteCells (T ++ laneL ⟨f, g, m, n⟩)) V4) := ⟨Or.inr (by have := BA4.out; rwa [wrote] at this)⟩
      go_roundg (l.length - (kk + 1))
      case measure => omega
      case rel => exact ⟨kk + 1, by omega, by omega, by go_num, BW7, ⟨by rw [EN.out]; exact IB7.out⟩⟩
    · have hltz : ¬ (kk : Int) < (l.length : Int) := by omega
      have hk : kk = l.length := by omega
      subst hk
      have IBL : Lib.IsBuilder 75 5 w1.heap.size w1.heap.size (Lib.byteCells (netL s t l)) wr := by have := IB.out; rwa [List.take_length] at this
      have HW := Tryd.Builder_String_any w1.heap.size w1.heap.size (netL s t l) wr IBL hsr
      clear IBL
      go_wp2_with (go_at_call 44; refine HW.mono ?_; rintro e W5 ⟨rfl, hb5⟩)
      go_ret
      exact ⟨rfl, HB1.out.trans ((BW.out.trans hb5).mono HB1.out.size)⟩
theorem NetText_no (s t : Int) (A : Option Addr) (c : Nat) (l : List S81) (w : World) (hr : Kd.C k81 w A l.length l) (hc : l.length ≤ c) (hok : okNet s t l = true) (hn : netB s t l = false) :
    Calls Tryd.prog 19 #[.agg #[.int .i8 s, .int .i16 t, .slice A l.length c]] w fun e w' => e = .returned (.string ⟨#[]⟩) ∧ Below w.heap.size w w' := by
  have OK := Aside0.mk hok
  have HR := Aside0.mk hr
  clear hok hr
  go_enter Tryd.func19, Tryd.ntmps19
  go_wp2_with fail
  refine (ValidNet_any s t A c l _ (Kd.C_alloc HR.out _) hc OK.out).mono ?_
  rintro e w1 ⟨rfl, hb⟩
  rw [hn]
  have HB1 := Aside0.mk (below_call hb)
  clear hb hn
  go_wp2
  go_ret
  exact ⟨rfl, HB1.out⟩
def impl_NetText.f (a0_0 : Int) (a0_1 : Int) (l0_2 : List (S81)) : Option (ByteArray) := if okNet a0_0 a0_1 l0_2 = true then some (if netB a0_0 a0_1 l0_2 = true then bs (netL a0_0 a0_1 l0_2) else ⟨#[]⟩) else none
theorem impl_NetText.calls (a0_0 : Int) (a0_1 : Int) (A0_2 : Option Addr) (c0_2 : Nat) (l0_2 : List (S81)) (r : ByteArray) (w : World) (hr0_2 : Kd.C k81 w A0_2 l0_2.length l0_2) (hc0_2 : l0_2.length ≤ c0_2) (ht : Tab w) (h : impl_NetText.f a0_0 a0_1 l0_2 = some r) :
    Calls Tryd.prog 19 #[.agg #[.int .i8 a0_0, .int .i16 a0_1, .slice A0_2 l0_2.length c0_2]] w fun e w' => e = .returned (.string r) ∧ Below w.heap.size w w' := by
  unfold impl_NetText.f at h
  split at h
  · rename_i hok
    injection h with h
    by_cases hn : netB a0_0 a0_1 l0_2 = true
    · rw [if_pos hn] at h
      subst h
      exact NetText_is _ _ _ _ _ _ ht hr0_2 hc0_2 hok hn
    · rw [if_neg hn] at h
      subst h
      exact NetText_no _ _ _ _ _ _ hr0_2 hc0_2 hok (by simpa using hn)
  · cases h
end Go.Proofs.YtcekifhkbdjpdaaDoor.Q
