/- impl's payable: which amounts can be paid, place by place. -/
import Derived.Test.YtlcnjpibfjhibaaOBase
import Derived.Laws.Rows
import Derived.Deep.OwnRows
import Derived.Test.YtlcnjpibfjhibaaQuietLast
import Derived.Lib.QuietBelow
import Derived.StillTailTactics
set_option linter.unusedVariables false
set_option linter.unusedSimpArgs false
namespace Go.Proofs.Ytlcnjpibfjhibaa.Q
open Go.RowKit Go.Proofs.YtlcnjpibfjhibaaW.PrintWords Go.Proofs.YtlcnjpibfjhibaaW.PrintLast Go.Proofs.YtlcnjpibfjhibaaW.PrintMore
/-- A block holds just these bools. -/
structure RowB (w : World) (b : Nat) (xs : List Bool) : Prop where
  out : w.heap[b]? = some (.cells (xs.map Value.bool).toArray 4 (0, 0))
theorem RowB.lt {w : World} {b : Nat} {xs : List Bool} (h : RowB w b xs) : b < w.heap.size := (Array.getElem?_eq_some_iff.1 h.out).1
theorem RowB.below {w w1 : World} {b B : Nat} {xs : List Bool} (h : RowB w b xs) (hb : Below B w w1) (hB : b < B) : RowB w1 b xs := ⟨(hb.block b hB).trans h.out⟩
theorem RowB.alloc {w : World} {b : Nat} {xs : List Bool} (h : RowB w b xs) (o : Obj) : RowB (w.alloc o) b xs := h.below ((Below.refl w.heap.size w).alloc (Nat.le_refl _) o) h.lt
theorem RowB.drew {w : World} {b : Nat} {xs : List Bool} (h : RowB w b xs) : RowB w.drew b xs := ⟨h.out⟩
theorem RowB.drewN {w : World} {b : Nat} {xs : List Bool} (h : RowB w b xs) (n : Nat) : RowB (w.drewN n) b xs := ⟨h.out⟩
theorem RowB.cell {w : World} {b : Nat} {xs : List Bool} (h : RowB w b xs) (i : Nat) (hi : i < xs.length) : w.cell? ⟨b, i, none⟩ = some (.bool (xs.getD i false)) := by
  rw [cell_of_row w b i _ _ (0, 0) h.out]
  simp [List.getD_eq_getElem?_getD, hi]
theorem RowB.frozen {w : World} {b : Nat} {xs : List Bool} (h : RowB w b xs) (i : Nat) : w.frozen? ⟨b, i, none⟩ = false := frozen_of_row w b i _ _ h.out
theorem RowB.set {w : World} {b : Nat} {xs : List Bool} (h : RowB w b xs) (i : Nat) (x : Bool) : RowB (w.setCell ⟨b, i, none⟩ (.bool x)) b (xs.set i x) := ⟨by
  rw [heap_setCell_same w b i _ _ _ h.out]
  congr 1
  congr 1
  apply Array.ext'
  simp⟩
theorem own_rowB {w : World} {base b m : Nat} {xs : List Bool} (h : RowB w b xs) (hm : xs.length = m) (hb : base ≤ b) (hm2 : m ≤ 1048576) : w.ownsRow base 4 1 (.slice (some ⟨b, 0, none⟩) m m) xs.length (encs Value.bool xs) := by
  subst hm
  refine ⟨by simp [encs], .inr ⟨b, xs.length, _, rfl, hb, h.out, Nat.le_refl _, by simp only [maxLen]; omega, by simp, ?_⟩⟩
  simp only [encs, Nat.mul_one]
  exact List.take_of_length_le (by simp)
/-- The row ahead of place k: the places below it are right. -/
def rowK (vs : List Int) (n : Nat) : Nat → List Bool
  | 0 => true :: List.replicate n false
  | k + 1 => (rowK vs n k).set k ((rowK vs n k).getD k false || vs.any fun v => decide (v ≤ (k : Int)) && (rowK vs n k).getD ((k : Int) - v).toNat false)
theorem rowK_length (vs : List Int) (n : Nat) : ∀ k, (rowK vs n k).length = n + 1
  | 0 => by simp [rowK]
  | k + 1 => by rw [rowK, List.length_set, rowK_length vs n k]
def payL (vs : List Int) (n : Nat) : List Bool := rowK vs n (n + 1)
set_option maxHeartbeats 4000000 in
set_option maxRecDepth 100000 in
theorem pay_pred (B G : Nat) (n at_ : Nat) (xs : List Bool) (vs : List Int) (w : World) (hat : at_ < n) (hxn : xs.length = n) (hn : n ≤ 1073741824) (hv : ∀ v ∈ vs, 1 ≤ v ∧ v ≤ 1099511627776)
    (h0 : B < w.heap.size) (h1 : B + 1 < w.heap.size ∨ True) (k0 : w.cell? ⟨B, 0, none⟩ = some (.slice (some ⟨G, 0, none⟩) n n)) (C : Nat) (hC : C < w.heap.size) (k1 : w.cell? ⟨C, 0, none⟩ = some (.int .i64 (at_ : Int))) (hr : RowB w G xs) :
    PredInt 70 #[.pointer (some ⟨C, 0, none⟩), .pointer (some ⟨B, 0, none⟩)] (fun v => decide (v ≤ (at_ : Int)) && xs.getD ((at_ : Int) - v).toNat false) vs w := by
  intro W v hvm hb
  have hvv := hv v hvm
  have d0 := (hb.cell (p := ⟨B, 0, none⟩) h0).trans k0
  have d1 := (hb.cell (p := ⟨C, 0, none⟩) hC).trans k1
  have hRW := hr.below hb hr.lt
  have HR := Aside0.mk hRW
  clear k0 k1 hvm hb h0 h1 hr hRW hv
  simp only [List.append_toArray, List.cons_append, List.nil_append]
  by_cases hle : v ≤ (at_ : Int)
  · obtain ⟨q, hq⟩ : ∃ q : Nat, (at_ : Int) - v = q := ⟨((at_ : Int) - v).toNat, by omega⟩
    have e1 : IntKind.i64.wrap ((at_ : Int) - v) = (q : Int) := by rw [IntKind.wrap_i64]; omega
    have hqn : (q : Int) < (n : Int) := by omega
    have hx := HR.out.cell q (by omega)
    have E : Aside0 ((decide (v ≤ (at_ : Int)) && xs.getD ((at_ : Int) - v).toNat false) = xs.getD q false) := ⟨by rw [hq, Int.toNat_natCast, decide_eq_true hle]; rfl⟩
    obtain ⟨bv, hbv⟩ : ∃ bv, xs.getD q false = bv := ⟨_, rfl⟩
    rw [hbv] at hx E
    have hd : decide (v ≤ (at_ : Int)) = true := decide_eq_true hle
    clear hq hbv
    go_enter Try.func70, Try.ntmps70
    go_wp2
    go_ret
    refine ⟨?_, Below.refl _ _⟩
    first | rfl | (rw [E.out]; rfl) | trace_state
  · have E : Aside0 ((decide (v ≤ (at_ : Int)) && xs.getD ((at_ : Int) - v).toNat false) = false) := ⟨by rw [decide_eq_false hle]; rfl⟩
    have hd : decide (v ≤ (at_ : Int)) = false := decide_eq_false hle
    go_enter Try.func70, Try.ntmps70
    go_wp2
    go_ret
    exact ⟨rfl, Below.refl _ _⟩
theorem infoBool' : (Try.prog.info? 4).map (fun i => (i.zero, i.size, i.bytes)) = some (some (.bool false), 1, 1) := by kernel_rfl
theorem madeB (n : Nat) : madeCells #[.bool false] n = ((List.replicate n false).map Value.bool).toArray := by
  apply Array.ext'
  apply List.ext_getElem
  · simp [madeCells]
  · intro i h1 h2
    simp [madeCells, Nat.mod_one]
theorem cells4b {V W : World} {p0 p1 p2 p3 : Addr} {v0 v1 v2 v3 : Value} (q0 : V.cell? p0 = some v0) (q1 : V.cell? p1 = some v1) (q2 : V.cell? p2 = some v2) (q3 : V.cell? p3 = some v3) (hB : Below V.heap.size V W) : W.cell? p0 = some v0 ∧ W.cell? p1 = some v1 ∧ W.cell? p2 = some v2 ∧ W.cell? p3 = some v3 ∧ Below V.heap.size V W := ⟨pw_cell_below hB q0, pw_cell_below hB q1, pw_cell_below hB q2, pw_cell_below hB q3, hB⟩
set_option maxHeartbeats 40000000 in
set_option maxRecDepth 100000 in
theorem payable_any (A : Option Addr) (c : Nat) (vs : List Int) (n : Nat) (w : World) (hr : Kd.C (Kd.int .i64) w A vs.length vs) (hc : vs.length ≤ c) (hv : ∀ v ∈ vs, 1 ≤ v ∧ v ≤ 1099511627776) (hn : n ≤ 1000000) :
    Calls Try.prog 37 #[.slice A vs.length c, .int .i64 (n : Int)] w fun e w' => ∃ v : Value, e = .returned v ∧ Kd.R Kd.bool 4 w' w.heap.size (fun _ => True) v (payL vs n) ∧ Below w.heap.size w w' := by
  have HR := Aside0.mk hr
  have HV := Aside0.mk hv
  clear hr hv
  obtain ⟨m, hm⟩ : ∃ m, m = n + 1 := ⟨_, rfl⟩
  have e1 : IntKind.i64.wrap ((n : Int) + 1) = (m : Int) := by rw [IntKind.wrap_i64]; omega
  have hmz : (0 : Int) < (m : Int) := by omega
  have hmn : 0 < m := by omega
  have HM := Aside0.mk hm
  have hm2 : m ≤ 1000001 := by omega
  have hmk := fun W => run_make_row' (P := Try.prog) 49 4 (.bool false) 1 Try.underlying49 infoBool' rfl .i64 .i64 m (by omega) (by omega) W
  obtain ⟨mc, hmc⟩ : ∃ mc, madeCells #[.bool false] m = mc := ⟨_, rfl⟩
  have hz0 : mc[0]? = some (.bool false) := by rw [← hmc, madeB]; simp [hmn]
  have HMC : Aside0 (mc.setIfInBounds 0 (.bool true) = ((rowK vs n 0).map Value.bool).toArray) := ⟨by
    rw [← hmc, madeB, hm]
    apply Array.ext'
    simp [rowK, List.replicate_succ]⟩
  rw [hmc] at hmk
  clear hm hmc
  go_enter Try.func37, Try.ntmps37
  go_wp2
  obtain ⟨w2, hw2⟩ : ∃ w2, w2 = (w.alloc (.cells (mc.setIfInBounds 0 (.bool true)) 4)).alloc (.cells #[.slice (some ⟨w.heap.size, 0, none⟩) m m] 49) := ⟨_, rfl⟩
  have HB2 : Aside0 (Below w.heap.size w w2) := ⟨by rw [hw2]; exact ((Below.refl _ _).alloc (Nat.le_refl _) _).alloc (by simp) _⟩
  have HR2 : Aside0 (RowB w2 w.heap.size (rowK vs n 0)) := ⟨by
    rw [hw2, HMC.out]
    refine RowB.alloc ⟨?_⟩ _
    exact heap_alloc_new w _⟩
  have HX2 : Aside0 (w2.cell? ⟨w.heap.size + 1, 0, none⟩ = some (.slice (some ⟨w.heap.size, 0, none⟩) m m)) := ⟨by rw [hw2]; go_simp⟩
  rw [← hw2]
  clear hw2 hmk hz0 HMC
  obtain ⟨g, hg⟩ : ∃ g, w.heap.size = g := ⟨_, rfl⟩
  have HG := Aside0.mk hg
  simp only [hg] at HB2 HR2 HX2 ⊢
  clear hg
  go_loopg [14] m (fun gg v14 wr => ∃ (k : Nat), k ≤ m ∧ m - k ≤ gg ∧ v14 = .int .i64 k ∧ Aside0 (Below g w wr) ∧ Aside0 (RowB wr g (rowK vs n k)) ∧ Aside0 (wr.cell? ⟨g + 1, 0, none⟩ = some (.slice (some ⟨g, 0, none⟩) m m)))
  case atStart => exact ⟨0, Nat.zero_le _, by omega, rfl, HB2, HR2, HX2⟩
  case round =>
    obtain ⟨k, hk, hgg, rfl, HB, HRW, HX⟩ := hrel
    by_cases hlt : k < m
    · have hltz : (k : Int) < (m : Int) := by omega
      have hxl : (rowK vs n k).length = m := by rw [rowK_length, HM.out]
      have HUN : Aside0 (rowK vs n (k + 1) = (rowK vs n k).set k ((rowK vs n k).getD k false || vs.any fun v => decide (v ≤ (k : Int)) && (rowK vs n k).getD ((k : Int) - v).toNat false)) := ⟨rfl⟩
      obtain ⟨xs, hxs⟩ : ∃ xs, rowK vs n k = xs := ⟨_, rfl⟩
      rw [hxs] at HRW HUN hxl
      clear hxs
      have hx1 : g + 1 < wr.heap.size := World.block_lt_of_cell? wr _ HX.out
      have hgw : g < wr.heap.size := HRW.out.lt
      obtain ⟨W4, hW4⟩ : ∃ W4, W4 = wr.alloc (.cells #[.int .i64 (k : Int)] 3) := ⟨_, rfl⟩
      have HW4 := Aside0.mk hW4
      have HB4 : Aside0 (Below g w W4) := ⟨by rw [hW4]; exact HB.out.alloc (by omega) _⟩
      have HR4 : Aside0 (RowB W4 g xs) := ⟨by rw [hW4]; exact HRW.out.alloc _⟩
      have b5 : W4.cell? ⟨g + 1, 0, none⟩ = some (.slice (some ⟨g, 0, none⟩) m m) := by rw [hW4]; exact (World.cell?_alloc_lt _ _ _ hx1).trans HX.out
      have b6 : W4.cell? ⟨wr.heap.size, 0, none⟩ = some (.int .i64 (k : Int)) := by rw [hW4]; go_simp
      have hs4 : W4.heap.size = wr.heap.size + 1 := by rw [hW4]; simp
      have x22 := HR4.out.cell k (by omega)
      have f22 := HR4.out.frozen k
      have HC4 := Aside0.mk (Kd.C_below HR.out (show Below w.heap.size w W4 by rw [HG.out]; exact HB4.out))
      clear hW4 HB HRW HX
      cases hbt : xs.getD k false with
      | true =>
        rw [hbt] at x22
        have HS5 : Aside0 (rowK vs n (k + 1) = xs.set k true) := ⟨by rw [HUN.out, hbt]; rfl⟩
        clear hbt HUN
        go_wp2_with fail
        rw [← HW4.out]
        go_still_tail 12, (by kernel_rfl)
        change wpList _ _ _ _ _ W4.drew
        have HR5 : Aside0 (RowB (W4.setCell ⟨g, k, none⟩ (.bool true)).drew g (rowK vs n (k + 1))) := ⟨by rw [HS5.out]; exact (HR4.out.set _ _).drew⟩
        have HB5 : Aside0 (Below g w (W4.setCell ⟨g, k, none⟩ (.bool true)).drew) := ⟨(HB4.out.setCell (Nat.le_refl _) _).drew⟩
        have HX5 : Aside0 ((W4.setCell ⟨g, k, none⟩ (.bool true)).drew.cell? ⟨g + 1, 0, none⟩ = some (.slice (some ⟨g, 0, none⟩) m m)) := ⟨(World.cell?_setCell_far _ _ _ _ (show g ≠ g + 1 by omega)).trans b5⟩
        go_wp2
        go_roundg (m - (k + 1))
        case measure => omega
        case rel => exact ⟨k + 1, by omega, by omega, by go_num, HB5, HR5, HX5⟩
      | false =>
        rw [hbt] at x22
        have HS5 : Aside0 (rowK vs n (k + 1) = xs.set k (vs.any fun v => decide (v ≤ (k : Int)) && xs.getD ((k : Int) - v).toNat false)) := ⟨by rw [HUN.out, hbt]; rfl⟩
        clear hbt HUN
        have eg := enters_of Try.func70 (by kernel_rfl) rfl
        have HCF : Aside0 (∀ V, Below W4.heap.size W4 V → Calls Try.prog 69 #[.slice A vs.length c, .func (.func 70) #[] #[.pointer (some ⟨wr.heap.size, 0, none⟩), .pointer (some ⟨g + 1, 0, none⟩)]] V fun e w' => e = .returned (.bool (vs.any fun v => decide (v ≤ (k : Int)) && xs.getD ((k : Int) - v).toNat false)) ∧ Below V.heap.size V w') := ⟨fun V hV => by
          have hsz := hV.size
          exact containsFunc_Int 70 #[.pointer (some ⟨wr.heap.size, 0, none⟩), .pointer (some ⟨g + 1, 0, none⟩)] eg _ A c vs V (Kd.C_below HC4.out hV) hc (pay_pred (g + 1) g m k xs vs V hlt (by omega) (by omega) HV.out (by omega) (Or.inr trivial) (pw_cell_below hV b5) wr.heap.size (by omega) (pw_cell_below hV b6) (HR4.out.below hV (by omega)))⟩
        go_wp2_with fail
        rw [← HW4.out]
        obtain ⟨bv, hbv⟩ : ∃ bv, (vs.any fun v => decide (v ≤ (k : Int)) && xs.getD ((k : Int) - v).toNat false) = bv := ⟨_, rfl⟩
        rw [hbv] at HS5 HCF
        clear hbv eg
        have b5' := cell_regrown (w := W4) b5
        have b6' := cell_regrown (w := W4) b6
        have x22' := cell_regrown (w := W4) x22
        have HCF2 : ∀ d os, Calls Try.prog 69 #[.slice A vs.length c, .func (.func 70) #[] #[.pointer (some ⟨wr.heap.size, 0, none⟩), .pointer (some ⟨g + 1, 0, none⟩)]] (Go.Sort.grow (redrawn W4 d) os) fun e w'' => e = .returned (.bool bv) ∧ ∃ p : Regrown, w'' = Go.Sort.grow (redrawn W4 p.d) p.os := fun d os => Calls.regrown_of (HCF.out _ (below_regrown W4 d os))
        clear b5 b6 x22
        refine wp_region_quiet_last_at 12 rfl (by kernel_rfl) (by kernel_rfl) (by kernel_rfl) (by kernel_rfl) ?_
        simp only [List.take_succ_cons, List.take_zero]
        repeat (quiet_step ((go_at_call 69; with_reducible exact HCF2 _ _)))
        refine wpQuiet_nil ?_
        intro _ hw'
        obtain ⟨⟨dq, osq⟩, hw''⟩ := hw'
        subst hw''
        have hb26 := below_regrown W4 dq osq
        have b5 := b5' dq osq
        have b6 := b6' dq osq
        clear b5' b6' x22' HCF2
        generalize Go.Sort.grow (redrawn W4 dq) osq = w26 at *
        have R26 : RowB w26 g xs := HR4.out.below hb26 (show g < W4.heap.size by omega)
        have x26 := R26.cell k (by omega)
        have f26 := R26.frozen k
        have HR5 : Aside0 (RowB (w26.setCell ⟨g, k, none⟩ (.bool bv)) g (rowK vs n (k + 1))) := ⟨by rw [HS5.out]; exact R26.set _ _⟩
        have HB5 : Aside0 (Below g w (w26.setCell ⟨g, k, none⟩ (.bool bv))) := ⟨(HB4.out.trans (hb26.mono (show g ≤ W4.heap.size by omega))).setCell (Nat.le_refl _) _⟩
        have HX5 : Aside0 ((w26.setCell ⟨g, k, none⟩ (.bool bv)).cell? ⟨g + 1, 0, none⟩ = some (.slice (some ⟨g, 0, none⟩) m m)) := ⟨(World.cell?_setCell_far _ _ _ _ (show g ≠ g + 1 by omega)).trans b5⟩
        go_wp2
        go_roundg (m - (k + 1))
        case measure => omega
        case rel => exact ⟨k + 1, by omega, by omega, by go_num, HB5, HR5, HX5⟩
    · have hltz : ¬ (k : Int) < (m : Int) := by omega
      have HKM : Aside0 (k = n + 1) := ⟨by have := HM.out; omega⟩
      have b5 := HX.out
      go_wp2
      go_ret
      have hrow : RowB wr g (payL vs n) := by have := HRW.out; rw [HKM.out] at this; exact this
      refine ⟨_, rfl, ?_, ?_⟩
      · rw [HG.out]
        exact Kd.R_of_own (own_rowB hrow (by rw [payL, rowK_length, HM.out]) (Nat.le_refl _) (by omega)) (fun _ _ => trivial)
      · rw [HG.out]
        exact HB.out
def impl_payable.f (l0 : List Int) (a1 : Int) : Option (List Bool) := if (0 ≤ a1 ∧ a1 ≤ 1000000) ∧ l0.all (fun v => decide (1 ≤ v ∧ v ≤ 1099511627776)) = true then some (payL l0 a1.toNat) else none
theorem impl_payable.calls (A0 : Option Addr) (c0 : Nat) (l0 : List Int) (a1 : Int) (r : List Bool) (w : World) (hr0 : Kd.C (Kd.int .i64) w A0 l0.length l0) (hc0 : l0.length ≤ c0) (h : impl_payable.f l0 a1 = some r) :
    Calls Try.prog 37 #[.slice A0 l0.length c0, .int .i64 a1] w fun e w' => ∃ v0_ : Value, e = .returned (v0_) ∧ Kd.R Kd.bool 4 w' w.heap.size (fun _ => True) v0_ r ∧ Below w.heap.size w w' := by
  unfold impl_payable.f at h
  split at h
  · rename_i hh
    injection h with h
    subst h
    have := payable_any A0 c0 l0 a1.toNat w hr0 hc0 (fun v hv => by simpa using List.all_eq_true.1 hh.2 v hv) (by omega)
    rwa [Int.toNat_of_nonneg hh.1.1] at this
  · cases h
end Go.Proofs.Ytlcnjpibfjhibaa.Q
