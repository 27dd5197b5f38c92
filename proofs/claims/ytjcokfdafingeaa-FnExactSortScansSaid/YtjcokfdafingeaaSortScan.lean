/- slices.insertionSortCmpFunc at i.Scan (a slice of one's own, a comparison that turns nothing), pdqsortCmpFunc and SortFunc at most 12 scans; the comparison of impl's SortScans. -/
import Derived.Test.YtjcokfdafingeaaDelScan
import Derived.Test.YtjcokfdafingeaaIdx
import Derived.Lib.QuietBelow
import Derived.StillTailTactics
import Derived.Deep.RegionHeldLaw
import Derived.Deep.QuietTactic
set_option linter.unusedVariables false
set_option linter.unusedSimpArgs false
namespace Go.Proofs.Ytjcokfdafingeaa.Q
open Go.Sort (grow)
open Go.RowKit Go.Proofs.YtjcokfdafingeaaW.PrintWords Go.Proofs.YtjcokfdafingeaaW.PrintLast Go.Proofs.YtjcokfdafingeaaW.PrintMore
def swapS (xs : List S47) (j : Nat) : List S47 := (xs.set (j + 1) (xs.getD j z47)).set j (xs.getD (j + 1) z47)
/-- The inner round: the scan at place j moves ahead of those that are greater. -/
def innerS (cf : S47 → S47 → Int) : Nat → List S47 → List S47
  | 0, xs => xs
  | j + 1, xs => if cf (xs.getD (j + 1) z47) (xs.getD j z47) < 0 then innerS cf j (swapS xs j) else xs
/-- The rounds from place i on, n of them. -/
def outerS (cf : S47 → S47 → Int) : Nat → Nat → List S47 → List S47
  | 0, _, xs => xs
  | n + 1, i, xs => outerS cf n (i + 1) (innerS cf i xs)
theorem swapS_length (xs : List S47) (j : Nat) : (swapS xs j).length = xs.length := by unfold swapS; rw [List.length_set, List.length_set]
theorem innerS_length (cf : S47 → S47 → Int) : ∀ (j : Nat) (xs : List S47), (innerS cf j xs).length = xs.length
  | 0, xs => rfl
  | j + 1, xs => by
    rw [innerS]
    split
    · rw [innerS_length cf j, swapS_length]
    · rfl
/-- One scan of a row of one's own is written. -/
theorem R_put {e base g n cap : Nat} {W : World} {xs : List S47} (h : Kd.R k47 e W base (fun _ => True) (.slice (some ⟨g, 0, none⟩) n cap) xs) (i : Nat) (hi : i < n) (y : S47) :
    Kd.R k47 e ((W.setCell ⟨g, i * 2, none⟩ (.int .i8 y.f0)).setCell ⟨g, i * 2 + 1, none⟩ (.int .i16 y.f1)) base (fun _ => True) (.slice (some ⟨g, 0, none⟩) n cap) (xs.set i y) ∧ W.grownBy ((W.setCell ⟨g, i * 2, none⟩ (.int .i8 y.f0)).setCell ⟨g, i * 2 + 1, none⟩ (.int .i16 y.f1)) (some g) := by
  obtain ⟨c, hcl, _, hcc, _⟩ := Kd.R_elem h z47 (i : Int) (by omega) (by omega)
  have hs := Kd.R_seg h (i : Int) (by omega) (by omega) (c := c) (seg := encScan y) (j := 0) hcl hcc (show 0 + 2 ≤ 2 by omega) (x' := y) (okp := fun _ => False) (by
    rw [List.take_zero, List.nil_append, Nat.zero_add, show (encScan y).length = k47.sz from rfl, ← hcl, List.drop_length, List.append_nil]
    exact k47_mkM _ _ (fun _ => False) y) (fun _ h => h.elim)
  rw [Int.toNat_natCast, Nat.add_zero] at hs
  exact hs
/-- A comparison that turns nothing. -/
def CmpS (g : Nat) (cb : Array Value) (cf : S47 → S47 → Int) : Prop := ∀ (W : World) (x y : S47), Calls Try.prog g (#[.agg #[.int .i8 x.f0, .int .i16 x.f1], .agg #[.int .i8 y.f0, .int .i16 y.f1]] ++ cb) W fun e w' => e = .returned (.int .i64 (cf x y)) ∧ Below W.heap.size W w'
set_option maxHeartbeats 40000000 in
set_option maxRecDepth 1000000 in
theorem insSortS_is (cf : S47 → S47 → Int) (g : Nat) (cb : Array Value) (base blk cap : Nat) (l : List S47) (n : Nat) (w : World) (hn : l.length = n)
    (eg : ∀ args w, (callFunc g args).run Try.prog w = .ok (.enter g args) w) (hcmp : CmpS g cb cf) (hR : Kd.R k47 47 w base (fun _ => True) (.slice (some ⟨blk, 0, none⟩) n cap) l) (hbase : base ≤ w.heap.size) (hbb : base ≤ blk) (hbw : blk < w.heap.size) (hl : n ≤ 1048576) :
    Calls Try.prog 102 #[.slice (some ⟨blk, 0, none⟩) n cap, .int .i64 0, .int .i64 (n : Int), .func (.func g) #[] cb] w fun e w' =>
      e = .returned (.tuple #[]) ∧ Kd.R k47 47 w' base (fun _ => True) (.slice (some ⟨blk, 0, none⟩) n cap) (outerS cf (n - 1) 1 l) ∧ Below base w w' := by
  have HC := Aside0.mk hcmp
  have HR := Aside0.mk hR
  have HN := Aside0.mk hn
  have HB0 : Aside0 (Below base w w) := ⟨Below.refl _ _⟩
  clear hcmp hR hn
  go_enter Try.func102, Try.ntmps102
  go_wp2
  go_loopg [8] n (fun g1 vi wr => ∃ (i : Nat) (xs : List S47), vi = .int .i64 i ∧ 1 ≤ i ∧ (i ≤ n ∨ i = 1) ∧ n + 1 - i ≤ g1 + 1 ∧ xs.length = n ∧ Aside0 (Kd.R k47 47 wr base (fun _ => True) (.slice (some ⟨blk, 0, none⟩) n cap) xs) ∧ Aside0 (Below base w wr) ∧ Aside0 (outerS cf (n - i) i xs = outerS cf (n - 1) 1 l))
  case atStart => exact ⟨1, l, by go_num, by omega, by omega, by omega, HN.out, HR, HB0, ⟨rfl⟩⟩
  case round =>
    obtain ⟨i, xs, rfl, hi1, hib, hg1, hsk, HX, BW, HO⟩ := hrel
    by_cases hlt : i < n
    · have hltz : (i : Int) < (n : Int) := by omega
      obtain ⟨wo, hwo⟩ : ∃ wo : World, wo = wr := ⟨_, rfl⟩
      subst hwo
      have HO2 : Aside0 (outerS cf (n - (i + 1)) (i + 1) (innerS cf i xs) = outerS cf (n - 1) 1 l) := ⟨by
        rw [← HO.out, show n - i = (n - (i + 1)) + 1 by omega]
        rfl⟩
      clear HO
      go_wp2
      go_loopg [9] i (fun g2 vj wr2 => ∃ (j : Nat) (ys : List S47), vj = .int .i64 j ∧ j ≤ i ∧ j ≤ g2 ∧ ys.length = n ∧ Aside0 (Kd.R k47 47 wr2 base (fun _ => True) (.slice (some ⟨blk, 0, none⟩) n cap) ys) ∧ Aside0 (Below base w wr2) ∧ Aside0 (innerS cf j ys = innerS cf i xs))
      case atStart => exact ⟨i, xs, rfl, Nat.le_refl _, Nat.le_refl _, hsk, HX, BW, ⟨rfl⟩⟩
      case round =>
        obtain ⟨j, ys, rfl, hji, hg2, hsj, HY, BY, HI⟩ := hrel
        by_cases hj0 : 0 < j
        · obtain ⟨jp, rfl⟩ : ∃ jp, j = jp + 1 := ⟨j - 1, by omega⟩
          obtain ⟨cj, hcl, hM, hcc, hfr⟩ := Kd.R_elem HY.out z47 ((jp + 1 : Nat) : Int) (by omega) (by omega)
          obtain rfl := k47_openM hM
          obtain ⟨cp, hclp, hMp, hccp, hfrp⟩ := Kd.R_elem HY.out z47 (jp : Int) (by omega) (by omega)
          obtain rfl := k47_openM hMp
          rw [Int.toNat_natCast] at hcc hccp hfr hfrp
          have hun : innerS cf (jp + 1) ys = if cf (ys.getD (jp + 1) z47) (ys.getD jp z47) < 0 then innerS cf jp (swapS ys jp) else ys := rfl
          have hsw : swapS ys jp = (ys.set (jp + 1) (ys.getD jp z47)).set jp (ys.getD (jp + 1) z47) := rfl
          have x0 : wr.cell? ⟨blk, (jp + 1) * 2, none⟩ = some (.int .i8 (ys.getD (jp + 1) z47).f0) := hcc 0 _ rfl
          have x1 : wr.cell? ⟨blk, (jp + 1) * 2 + 1, none⟩ = some (.int .i16 (ys.getD (jp + 1) z47).f1) := hcc 1 _ rfl
          have y0 : wr.cell? ⟨blk, jp * 2, none⟩ = some (.int .i8 (ys.getD jp z47).f0) := hccp 0 _ rfl
          have y1 : wr.cell? ⟨blk, jp * 2 + 1, none⟩ = some (.int .i16 (ys.getD jp z47).f1) := hccp 1 _ rfl
          clear hcl hM hcc hfr hclp hMp hccp hfrp
          generalize ys.getD (jp + 1) z47 = x at *
          generalize ys.getD jp z47 = y at *
          obtain ⟨xa, xb⟩ := x
          obtain ⟨ya, yb⟩ := y
          simp only at x0 x1 y0 y1
          have hcall : ∀ d os, Calls Try.prog g (#[.agg #[.int .i8 xa, .int .i16 xb], .agg #[.int .i8 ya, .int .i16 yb]] ++ cb) (grow (redrawn wr d) os) fun e w'' => e = .returned (.int .i64 (cf ⟨xa, xb⟩ ⟨ya, yb⟩)) ∧ ∃ p : Regrown, w'' = grow (redrawn wr p.d) p.os := fun d os => Calls.regrown_of (HC.out _ ⟨xa, xb⟩ ⟨ya, yb⟩)
          obtain ⟨cv, hcv⟩ : ∃ cv, cf ⟨xa, xb⟩ ⟨ya, yb⟩ = cv := ⟨_, rfl⟩
          rw [hcv] at hun hcall
          clear hcv
          have HUN := Aside0.mk hun
          have HSW := Aside0.mk hsw
          have x0' := cell_regrown x0
          have x1' := cell_regrown x1
          have y0' := cell_regrown y0
          have y1' := cell_regrown y1
          have hwp : IntKind.i64.wrap ((jp : Int) + 1 - 1) = (jp : Int) := by rw [IntKind.wrap_i64]; omega
          have hwp2 : IntKind.i64.wrap (jp : Int) = (jp : Int) := by rw [IntKind.wrap_i64]; omega
          have jz : (jp : Int) + 1 < (n : Int) := by omega
          have jz1 : (jp : Int) < (n : Int) := by omega
          have hjaz' : (0 : Int) < (jp : Int) + 1 := by omega
          have e0 : ((jp : Int) + 1).toNat = jp + 1 := by omega
          have p0 : (0 : Int) ≤ (jp : Int) + 1 := by omega
          clear x0 x1 y0 y1 hun hsw
          --CUT1
          go_wp2_with fail
          refine wp_region_quiet_below (by kernel_rfl) (by kernel_rfl) ?_
          repeat (quiet_step ((go_at_fn g; with_reducible exact hcall _ _)))
          --CUT2
          refine wpQuiet_nil ?_
          intro _ hw'
          obtain ⟨⟨dq, osq⟩, hw''⟩ := hw'
          subst hw''
          have x0 := x0' dq osq
          have x1 := x1' dq osq
          have y0 := y0' dq osq
          have y1 := y1' dq osq
          have hb7 := below_regrown wr dq osq
          clear x0' x1' y0' y1' hcall
          generalize grow (redrawn wr dq) osq = w6 at *
          have HY6 : Aside0 (Kd.R k47 47 w6 base (fun _ => True) (.slice (some ⟨blk, 0, none⟩) n cap) ys) := ⟨Kd.R_mono (Kd.R_below HY.out hb7) (fun _ _ => trivial)⟩
          have BY6 : Aside0 (Below base w w6) := ⟨BY.out.trans (hb7.mono (Nat.le_trans hbase BY.out.size))⟩
          clear hb7 HY BY
          by_cases hlv : cv < 0
          · have hlvd : decide (cv < 0) = true := decide_eq_true hlv
            have HI2 : Aside0 (innerS cf jp (swapS ys jp) = innerS cf i xs) := ⟨by rw [← HI.out, HUN.out, if_pos hlv]⟩
            clear HI HUN
            have hcm := fun (i : Nat) (hi : i < n) => Kd.R_elem HY6.out z47 (i : Int) (by omega) (by omega)
            obtain ⟨_, _, _, _, fj⟩ := hcm (jp + 1) (by omega)
            obtain ⟨_, _, _, _, fp⟩ := hcm jp (by omega)
            rw [Int.toNat_natCast] at fj fp
            have f0 : w6.frozen? ⟨blk, (jp + 1) * 2, none⟩ = false := fj 0
            have f1 : w6.frozen? ⟨blk, (jp + 1) * 2 + 1, none⟩ = false := fj 1
            have f2 : w6.frozen? ⟨blk, jp * 2, none⟩ = false := fp 0
            have f3 : w6.frozen? ⟨blk, jp * 2 + 1, none⟩ = false := fp 1
            clear hcm fj fp
            --CUT3
            go_wp2_with fail
            obtain ⟨j1, hj1⟩ : ∃ j1, j1 = jp + 1 := ⟨_, rfl⟩
            rw [← hj1] at x0 x1 f0 f1 e0
            have J1 := Aside0.mk hj1
            clear hj1
            go_region
            all_goals go_wp2
            have P1 := R_put HY6.out (jp + 1) (by omega) ⟨ya, yb⟩
            have P2 := R_put P1.1 jp (by omega) ⟨xa, xb⟩
            rw [← HSW.out] at P2
            have hsz7 : w6.heap.size ≤ _ := P1.2.size
            have BW7 := Below.grown (Below.grown BY6.out P1.2 (Nat.le_trans hbase BY6.out.size) (fun b hb => by injection hb with hb; omega)) P2.2 (Nat.le_trans (Nat.le_trans hbase BY6.out.size) hsz7) (fun b hb => by injection hb with hb; omega)
            rw [← J1.out] at P2 BW7
            have HP2 : Aside0 (Kd.R k47 47 _ base (fun _ => True) (.slice (some ⟨blk, 0, none⟩) n cap) (swapS ys jp)) := ⟨Kd.R_mono (Kd.R_below P2.1 (Below.refl _ _).drew) (fun _ _ => trivial)⟩
            have HB7 := Aside0.mk BW7.drew
            clear P1 P2 BW7
            go_roundg jp
            case measure => omega
            case rel => exact ⟨jp, swapS ys jp, by first | rfl | go_num | (congr 1; omega), by omega, Nat.le_refl _, by rw [swapS_length]; exact hsj, HP2, HB7, HI2⟩
          · have hlvd : decide (cv < 0) = false := decide_eq_false hlv
            have HI2 : Aside0 (ys = innerS cf i xs) := ⟨by rw [← HI.out, HUN.out, if_neg hlv]⟩
            clear HI HUN
            go_wp2
            go_roundg (n - (i + 1))
            case measure => omega
            case rel => exact ⟨i + 1, ys, by go_num, by omega, by omega, by omega, hsj, HY6, BY6, ⟨by rw [HI2.out]; exact HO2.out⟩⟩
        · have hj : j = 0 := by omega
          subst hj
          have HI2 : Aside0 (ys = innerS cf i xs) := ⟨HI.out⟩
          clear HI
          --CUT4
          go_wp2_with fail
          go_quiet (fail)
          go_wp2
          go_roundg (n - (i + 1))
          case measure => omega
          case rel => exact ⟨i + 1, ys, by go_num, by omega, by omega, by omega, hsj, ⟨Kd.R_mono (Kd.R_below HY.out (pw_below_drewN (Below.refl _ _) _)) (fun _ _ => trivial)⟩, ⟨pw_below_drewN BY.out _⟩, ⟨by rw [HI2.out]; exact HO2.out⟩⟩
    · have hltz : ¬ (i : Int) < (n : Int) := by omega
      have HE : Aside0 (xs = outerS cf (n - 1) 1 l) := ⟨by rw [← HO.out, show n - i = 0 by omega]; rfl⟩
      clear HO
      go_wp2
      go_end0
      exact ⟨rfl, by rw [← HE.out]; exact HX.out, BW.out⟩
set_option maxHeartbeats 8000000 in
set_option maxRecDepth 100000 in
theorem pdqS_is (cf : S47 → S47 → Int) (g : Nat) (cb : Array Value) (base blk cap : Nat) (l : List S47) (n : Nat) (lim : Int) (w : World) (hn : l.length = n)
    (eg : ∀ args w, (callFunc g args).run Try.prog w = .ok (.enter g args) w) (hcmp : CmpS g cb cf) (hR : Kd.R k47 47 w base (fun _ => True) (.slice (some ⟨blk, 0, none⟩) n cap) l) (hbase : base ≤ w.heap.size) (hbb : base ≤ blk) (hbw : blk < w.heap.size) (hl : n ≤ 12) :
    Calls Try.prog 96 #[.slice (some ⟨blk, 0, none⟩) n cap, .int .i64 0, .int .i64 (n : Int), .int .i64 lim, .func (.func g) #[] cb] w fun e w' =>
      e = .returned (.tuple #[]) ∧ Kd.R k47 47 w' base (fun _ => True) (.slice (some ⟨blk, 0, none⟩) n cap) (outerS cf (n - 1) 1 l) ∧ Below base w w' := by
  have HC := Aside0.mk hcmp
  have HR := Aside0.mk hR
  have HN := Aside0.mk hn
  have h12 : (n : Int) ≤ 12 := by omega
  have e1 : IntKind.i64.wrap ((n : Int) - 0) = (n : Int) := by rw [IntKind.wrap_i64]; omega
  have e2 : IntKind.i64.wrap (n : Int) = (n : Int) := by rw [IntKind.wrap_i64]; omega
  clear hcmp hR hn
  go_enter Try.func96, Try.ntmps96
  go_wp2
  go_loopg [1, 2, 3, 10, 11] 0 (fun gg v1 v2 v3 v10 v11 wr => v1 = .int .i64 0 ∧ v2 = .int .i64 (n : Int) ∧ v3 = .int .i64 lim ∧ v10 = .bool true ∧ v11 = .bool true ∧ wr = w)
  case atStart => exact ⟨rfl, rfl, rfl, rfl, rfl, rfl⟩
  case round =>
    obtain ⟨rfl, rfl, rfl, rfl, rfl, rfl⟩ := hrel
    go_wp2_with fail
    refine (insSortS_is cf g cb base blk cap l n wr HN.out eg HC.out HR.out hbase hbb hbw (by omega)).mono ?_
    rintro e w2 ⟨rfl, hR2, hb2⟩
    have HR2 := Aside0.mk hR2
    have HB2 := Aside0.mk hb2
    clear hR2 hb2
    go_wp2
    refine bodyPost_ret (results_none rfl _ _ _) rfl ?_
    exact ⟨rfl, HR2.out, HB2.out⟩
set_option maxHeartbeats 8000000 in
set_option maxRecDepth 100000 in
theorem len64_is (n : Nat) (hn : n ≤ 12) (w : World) : Calls Try.prog 111 #[.int .u64 (n : Int)] w fun e w' => ∃ r : Int, e = .returned (.int .i64 r) ∧ w = w' := by
  have : n = 0 ∨ n = 1 ∨ n = 2 ∨ n = 3 ∨ n = 4 ∨ n = 5 ∨ n = 6 ∨ n = 7 ∨ n = 8 ∨ n = 9 ∨ n = 10 ∨ n = 11 ∨ n = 12 := by omega
  rcases this with rfl | rfl | rfl | rfl | rfl | rfl | rfl | rfl | rfl | rfl | rfl | rfl | rfl
  all_goals
    go_enter Try.func111, Try.ntmps111
    go_wp2
    go_ret
    exact ⟨_, rfl, rfl⟩
theorem len_is (n : Nat) (hn : n ≤ 12) (w : World) : Calls Try.prog 97 #[.int .u64 (n : Int)] w fun e w' => ∃ r : Int, e = .returned (.int .i64 r) ∧ w = w' := by
  have e1 : IntKind.u64.wrap (n : Int) = (n : Int) := by unfold IntKind.wrap; simp [IntKind.bits]; omega
  go_enter Try.func97, Try.ntmps97
  go_wp2_with fail
  refine (len64_is n hn _).mono ?_
  rintro e w' ⟨r, rfl, rfl⟩
  go_wp2
  go_ret
  exact ⟨r, rfl, rfl⟩
set_option maxHeartbeats 8000000 in
set_option maxRecDepth 100000 in
theorem sortFuncS_is (cf : S47 → S47 → Int) (g : Nat) (cb : Array Value) (base blk cap : Nat) (l : List S47) (n : Nat) (w : World) (hn : l.length = n)
    (eg : ∀ args w, (callFunc g args).run Try.prog w = .ok (.enter g args) w) (hcmp : CmpS g cb cf) (hR : Kd.R k47 47 w base (fun _ => True) (.slice (some ⟨blk, 0, none⟩) n cap) l) (hbase : base ≤ w.heap.size) (hbb : base ≤ blk) (hbw : blk < w.heap.size) (hl : n ≤ 12) :
    Calls Try.prog 80 #[.slice (some ⟨blk, 0, none⟩) n cap, .func (.func g) #[] cb] w fun e w' =>
      e = .returned (.tuple #[]) ∧ Kd.R k47 47 w' base (fun _ => True) (.slice (some ⟨blk, 0, none⟩) n cap) (outerS cf (n - 1) 1 l) ∧ Below base w w' := by
  have HC := Aside0.mk hcmp
  have HR := Aside0.mk hR
  have HN := Aside0.mk hn
  have e1 : IntKind.u64.wrap (n : Int) = (n : Int) := by unfold IntKind.wrap; simp [IntKind.bits]; omega
  clear hcmp hR hn
  go_enter Try.func80, Try.ntmps80
  go_wp2_with fail
  refine (len_is n hl _).mono ?_
  rintro e w' ⟨r, rfl, rfl⟩
  go_wp2_with fail
  refine (pdqS_is cf g cb base blk cap l n r w HN.out eg HC.out HR.out hbase hbb hbw hl).mono ?_
  rintro e w2 ⟨rfl, hR2, hb2⟩
  have HR2 := Aside0.mk hR2
  have HB2 := Aside0.mk hb2
  clear hR2 hb2
  go_wp2
  go_end0
  exact ⟨rfl, HR2.out, HB2.out⟩
set_option maxHeartbeats 8000000 in
set_option maxRecDepth 1000000 in
/-- No scans: nothing is sorted. -/
theorem sortFuncS_none (g : Nat) (cb : Array Value) (A : Option Addr) (cap : Nat) (w : World) :
    Calls Try.prog 80 #[.slice A 0 cap, .func (.func g) #[] cb] w fun e w' => e = .returned (.tuple #[]) ∧ w' = w := by
  have e1 : IntKind.u64.wrap ((0 : Nat) : Int) = ((0 : Nat) : Int) := by decide
  have K : ∀ r : Int, Calls Try.prog 96 #[.slice A 0 cap, .int .i64 0, .int .i64 ((0 : Nat) : Int), .int .i64 r, .func (.func g) #[] cb] w fun e w' => e = .returned (.tuple #[]) ∧ w' = w := by
    intro r
    have K2 : Calls Try.prog 102 #[.slice A 0 cap, .int .i64 0, .int .i64 0, .func (.func g) #[] cb] w fun e w' => e = .returned (.tuple #[]) ∧ w' = w := by
      go_enter Try.func102, Try.ntmps102
      go_wp2
      go_loopg [8] 0 (fun gg v8 wr => v8 = .int .i64 1 ∧ wr = w)
      case atStart => exact ⟨rfl, rfl⟩
      case round =>
        obtain ⟨rfl, rfl⟩ := hrel
        go_wp2
        go_end0
        exact ⟨rfl, rfl⟩
    go_enter Try.func96, Try.ntmps96
    go_wp2
    go_loopg [1, 2, 3, 10, 11] 0 (fun gg v1 v2 v3 v10 v11 wr => v1 = .int .i64 0 ∧ v2 = .int .i64 0 ∧ v3 = .int .i64 r ∧ v10 = .bool true ∧ v11 = .bool true ∧ wr = w)
    case atStart => exact ⟨rfl, rfl, rfl, rfl, rfl, rfl⟩
    case round =>
      obtain ⟨rfl, rfl, rfl, rfl, rfl, rfl⟩ := hrel
      go_wp2_with fail
      refine K2.mono ?_
      rintro e w2 ⟨rfl, rfl⟩
      go_wp2
      refine bodyPost_ret (results_none rfl _ _ _) rfl ?_
      exact ⟨rfl, rfl⟩
  go_enter Try.func80, Try.ntmps80
  go_wp2_with fail
  refine (len_is 0 (by omega) _).mono ?_
  rintro e w' ⟨r, rfl, rfl⟩
  go_wp2_with fail
  refine (K r).mono ?_
  rintro e w2 ⟨rfl, rfl⟩
  go_wp2
  go_end0
  exact ⟨rfl, rfl⟩
end Go.Proofs.Ytjcokfdafingeaa.Q
