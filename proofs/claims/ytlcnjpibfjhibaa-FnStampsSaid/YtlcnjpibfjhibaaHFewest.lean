/- spec's l01Fewest: the fewest stamps for each amount, place by place. -/
import Derived.Test.YtlcnjpibfjhibaaOBase
import Derived.Test.YtlcnjpibfjhibaaFewMath
import Derived.Laws.Rows
import Derived.Deep.OwnRows
import Derived.BigQuiet
import Derived.Deep.QuietTactic
set_option linter.unusedVariables false
set_option linter.unusedSimpArgs false
namespace Go.Proofs.Ytlcnjpibfjhibaa.Q
open Go.RowKit Go.Proofs.YtlcnjpibfjhibaaW.PrintWords Go.Proofs.YtlcnjpibfjhibaaW.PrintLast Go.Proofs.YtlcnjpibfjhibaaW.PrintMore
open Go.Proofs.Ytlcnjpibfjhibaa.Pay (cand few1 fewFor fewRow few fewRow_length fewRow_get few_zero few_succ few_bound)
/-- A block holds just these whole numbers. -/
structure RowN (w : World) (b : Nat) (xs : List Int) : Prop where
  out : w.heap[b]? = some (.cells (xs.map (Value.int .i64)).toArray 2 (0, 0))
theorem RowN.lt {w : World} {b : Nat} {xs : List Int} (h : RowN w b xs) : b < w.heap.size := (Array.getElem?_eq_some_iff.1 h.out).1
theorem RowN.below {w w1 : World} {b B : Nat} {xs : List Int} (h : RowN w b xs) (hb : Below B w w1) (hB : b < B) : RowN w1 b xs := ⟨(hb.block b hB).trans h.out⟩
theorem RowN.alloc {w : World} {b : Nat} {xs : List Int} (h : RowN w b xs) (o : Obj) : RowN (w.alloc o) b xs := h.below ((Below.refl w.heap.size w).alloc (Nat.le_refl _) o) h.lt
theorem RowN.drew {w : World} {b : Nat} {xs : List Int} (h : RowN w b xs) : RowN w.drew b xs := ⟨h.out⟩
theorem RowN.drewN {w : World} {b : Nat} {xs : List Int} (h : RowN w b xs) (n : Nat) : RowN (w.drewN n) b xs := ⟨h.out⟩
theorem RowN.cell {w : World} {b : Nat} {xs : List Int} (h : RowN w b xs) (i : Nat) (hi : i < xs.length) : w.cell? ⟨b, i, none⟩ = some (.int .i64 (xs.getD i 0)) := by
  rw [cell_of_row w b i _ _ (0, 0) h.out]
  simp [List.getD_eq_getElem?_getD, hi]
theorem RowN.frozen {w : World} {b : Nat} {xs : List Int} (h : RowN w b xs) (i : Nat) : w.frozen? ⟨b, i, none⟩ = false := frozen_of_row w b i _ _ h.out
theorem RowN.set {w : World} {b : Nat} {xs : List Int} (h : RowN w b xs) (i : Nat) (x : Int) : RowN (w.setCell ⟨b, i, none⟩ (.int .i64 x)) b (xs.set i x) := ⟨by
  rw [heap_setCell_same w b i _ _ _ h.out]
  congr 1
  congr 1
  apply Array.ext'
  simp⟩
theorem RowN.far {w : World} {b : Nat} {xs : List Int} (h : RowN w b xs) (c i : Nat) (v : Value) (hc : b ≠ c) : RowN (w.setCell ⟨c, i, none⟩ v) b xs := ⟨(Below.heap_setCell w ⟨c, i, none⟩ v b hc).trans h.out⟩
theorem own_rowN {w : World} {base b m : Nat} {xs : List Int} (h : RowN w b xs) (hm : xs.length = m) (hb : base ≤ b) (hm2 : m ≤ 1048576) : w.ownsRow base 2 1 (.slice (some ⟨b, 0, none⟩) m m) xs.length (encs (Value.int .i64) xs) := by
  subst hm
  refine ⟨by simp [encs], .inr ⟨b, xs.length, _, rfl, hb, h.out, Nat.le_refl _, by simp only [maxLen]; omega, by simp, ?_⟩⟩
  simp only [encs, Nat.mul_one]
  exact List.take_of_length_le (by simp)
theorem infoN64 : (Try.prog.info? 2).map (fun i => (i.zero, i.size, i.bytes)) = some (some (.int .i64 0), 1, 8) := by kernel_rfl
theorem madeN (n : Nat) : madeCells #[.int .i64 0] n = ((List.replicate n (0 : Int)).map (Value.int .i64)).toArray := by
  apply Array.ext'
  apply List.ext_getElem
  · simp [madeCells]
  · intro i h1 h2
    simp [madeCells, Nat.mod_one]
theorem getD_set_self (xs : List Int) (i : Nat) (x : Int) (h : i < xs.length) : (xs.set i x).getD i 0 = x := by
  simp [List.getD_eq_getElem?_getD, h]
theorem getD_set_ne (xs : List Int) (i j : Nat) (x : Int) (h : i ≠ j) : (xs.set i x).getD j 0 = xs.getD j 0 := by
  simp [List.getD_eq_getElem?_getD, List.getElem?_set_ne h]
/-- What a row of fewest holds below place a. -/
structure FewTo (vs : List Int) (m a : Nat) (xs : List Int) : Prop where
  len : xs.length = m
  get : ∀ j, j < a → xs.getD j 0 = few vs j
theorem FewTo.at_ {vs : List Int} {m a : Nat} {xs : List Int} (h : FewTo vs m (a + 1) xs) (v : Int) (h1 : 1 ≤ v) (hle : v ≤ ((a + 1 : Nat) : Int)) : (fewRow vs a).getD (((a + 1 : Nat) : Int) - v).toNat 0 = xs.getD (((a + 1 : Nat) : Int) - v).toNat 0 := by
  rw [fewRow_get vs _ a (by omega), h.get _ (by omega)]
theorem FewTo.set {vs : List Int} {m a : Nat} {xs : List Int} (h : FewTo vs m a xs) (x : Int) : FewTo vs m a (xs.set a x) := ⟨by rw [List.length_set]; exact h.len, fun j hj => by rw [getD_set_ne _ _ _ _ (by omega)]; exact h.get j hj⟩
theorem FewTo.next {vs : List Int} {m a : Nat} {xs : List Int} (h : FewTo vs m (a + 1) xs) (hx : xs.getD (a + 1) 0 = vs.foldl (few1 (fewRow vs a) ((a + 1 : Nat) : Int)) (-1)) : FewTo vs m (a + 1 + 1) xs := ⟨h.len, fun j hj => by
  rcases Nat.lt_or_ge j (a + 1) with hlt | hge
  · exact h.get j hlt
  · have : j = a + 1 := by omega
    subst this
    rw [hx, few_succ]
    rfl⟩
theorem FewTo.all {vs : List Int} {m : Nat} {xs : List Int} (h : FewTo vs (m + 1) (m + 1) xs) : xs = fewRow vs m := by
  apply List.ext_getElem?
  intro j
  rcases Nat.lt_or_ge j (m + 1) with hlt | hge
  · have h1 := h.get j hlt
    rw [← fewRow_get vs j m (by omega)] at h1
    rw [List.getD_eq_getElem?_getD, List.getD_eq_getElem?_getD, List.getElem?_eq_getElem (by rw [h.len]; exact hlt), List.getElem?_eq_getElem (by rw [fewRow_length]; exact hlt)] at h1
    rw [List.getElem?_eq_getElem (by rw [h.len]; exact hlt), List.getElem?_eq_getElem (by rw [fewRow_length]; exact hlt)]
    exact congrArg some h1
  · rw [List.getElem?_eq_none (by rw [h.len]; exact hge), List.getElem?_eq_none (by rw [fewRow_length]; exact hge)]
theorem foldl_take_succ {β : Type} (f : β → Int → β) (b : β) (l : List Int) (k : Nat) (h : k < l.length) : (l.take (k + 1)).foldl f b = f ((l.take k).foldl f b) (l.getD k 0) := by
  rw [List.take_succ_eq_append_getElem h, List.foldl_append, List.getD_eq_getElem?_getD, List.getElem?_eq_getElem h]
  rfl
set_option maxHeartbeats 40000000 in
set_option maxRecDepth 100000 in
theorem l01Fewest_any (A : Option Addr) (c : Nat) (vs : List Int) (n : Nat) (w : World) (hr : Kd.C (Kd.int .i64) w A vs.length vs) (hc : vs.length ≤ c) (hl : vs.length ≤ 1048576) (hv : ∀ v ∈ vs, 1 ≤ v ∧ v ≤ 1099511627776) (hn : n ≤ 1000000) :
    Calls Try.prog 40 #[.slice A vs.length c, .int .i64 (n : Int)] w fun e w' => ∃ v : Value, e = .returned v ∧ Kd.R (Kd.int .i64) 2 w' w.heap.size (fun _ => True) v (fewRow vs n) ∧ Below w.heap.size w w' := by
  have HR := Aside0.mk hr
  have HV := Aside0.mk hv
  have HV1 : Aside0 (∀ v ∈ vs, 1 ≤ v) := ⟨fun v h => (hv v h).1⟩
  clear hr hv
  obtain ⟨m, hm⟩ : ∃ m, m = n + 1 := ⟨_, rfl⟩
  have e1 : IntKind.i64.wrap ((n : Int) + 1) = (m : Int) := by rw [IntKind.wrap_i64]; omega
  have hmn : 0 < m := by omega
  have HM := Aside0.mk hm
  have hm2 : m ≤ 1000001 := by omega
  have hmk := fun W => run_make_row' (P := Try.prog) 24 2 (.int .i64 0) 8 Try.underlying24 infoN64 rfl .i64 .i64 m (by omega) (by omega) W
  rw [madeN m] at hmk
  clear hm
  obtain ⟨mc, hmc⟩ : ∃ mc, ((List.replicate m (0 : Int)).map (Value.int .i64)).toArray = mc := ⟨_, rfl⟩
  have HMC := Aside0.mk hmc
  rw [hmc] at hmk
  clear hmc
  go_enter Try.func40, Try.ntmps40
  go_wp2
  obtain ⟨w2, hw2⟩ : ∃ w2, w2 = w.alloc (.cells mc 2) := ⟨_, rfl⟩
  have HB2 : Aside0 (Below w.heap.size w w2) := ⟨by rw [hw2]; exact (Below.refl _ _).alloc (Nat.le_refl _) _⟩
  have HR2 : Aside0 (RowN w2 w.heap.size (List.replicate m (0 : Int))) := ⟨⟨by
    rw [hw2, HMC.out]
    exact heap_alloc_new w _⟩⟩
  rw [← hw2]
  clear hw2 hmk HMC
  obtain ⟨g, hg⟩ : ∃ g, w.heap.size = g := ⟨_, rfl⟩
  have HG := Aside0.mk hg
  simp only [hg] at HB2 HR2 ⊢
  clear hg
  have HF0 : Aside0 (FewTo vs m 1 (List.replicate m (0 : Int))) := ⟨⟨by simp, fun j hj => by
    have : j = 0 := by omega
    subst this
    rw [few_zero]
    simp [List.getD_eq_getElem?_getD, List.getElem?_replicate, hmn]⟩⟩
  go_loopg [6] m (fun gg v6 wr => ∃ (a : Nat) (xs : List Int), a + 1 ≤ m ∧ m - (a + 1) ≤ gg ∧ v6 = .int .i64 ((a : Int) + 1) ∧ Aside0 (Below g w wr) ∧ Aside0 (RowN wr g xs) ∧ Aside0 (FewTo vs m (a + 1) xs))
  case atStart => exact ⟨0, _, by omega, by omega, rfl, HB2, HR2, HF0⟩
  case round =>
    obtain ⟨a, xs, ha, hgg, rfl, HB, HRW, HF⟩ := hrel
    by_cases hlt : a + 1 < m
    · have hle : (a : Int) + 1 ≤ (n : Int) := by have := HM.out; omega
      have haz : (a : Int) + 1 < (m : Int) := by omega
      have ez : ((a : Int) + 1).toNat = a + 1 := by omega
      have hcx := HRW.out.cell (a + 1) (by rw [HF.out.len]; exact hlt)
      have hfz := HRW.out.frozen (a + 1)
      go_wp2
      have HR3 : Aside0 (RowN (wr.setCell ⟨g, a + 1, none⟩ (.int .i64 (-1))) g (xs.set (a + 1) (-1))) := ⟨HRW.out.set _ _⟩
      have HB3 : Aside0 (Below g w (wr.setCell ⟨g, a + 1, none⟩ (.int .i64 (-1)))) := ⟨HB.out.setCell (Nat.le_refl _) _⟩
      have HF3 := Aside0.mk (HF.out.set (-1))
      have HX3 : Aside0 ((xs.set (a + 1) (-1)).getD (a + 1) 0 = (vs.take 0).foldl (few1 (fewRow vs a) ((a + 1 : Nat) : Int)) (-1)) := ⟨getD_set_self _ _ _ (by rw [HF.out.len]; exact hlt)⟩
      generalize wr.setCell ⟨g, a + 1, none⟩ (.int .i64 (-1)) = w3 at *
      generalize xs.set (a + 1) (-1) = ys at *
      clear HRW HB HF hcx hfz
      obtain ⟨wo, hwo⟩ : ∃ wo : World, wo = w3 := ⟨_, rfl⟩
      subst hwo
      go_loopg [7] vs.length (fun gg v7 wr => ∃ (i : Nat) (ys : List Int), i ≤ vs.length ∧ vs.length - i ≤ gg ∧ v7 = .int .i64 (i : Int) ∧ Aside0 (Below g w wr) ∧ Aside0 (RowN wr g ys) ∧ Aside0 (FewTo vs m (a + 1) ys) ∧ Aside0 (ys.getD (a + 1) 0 = (vs.take i).foldl (few1 (fewRow vs a) ((a + 1 : Nat) : Int)) (-1)))
      case atStart => exact ⟨0, ys, by omega, by omega, rfl, HB3, HR3, HF3, HX3⟩
      case round =>
        obtain ⟨i, zs, hi, hg2, rfl, HB4, HR4, HF4, HX4⟩ := hrel
        by_cases hil : i < vs.length
        · have hilz : (i : Int) < (vs.length : Int) := by omega
          obtain ⟨ad, rfl, hval⟩ := at_int64 (Kd.C_below HR.out (show Below w.heap.size w wr by rw [HG.out]; exact HB4.out)) i hil
          have hvm : vs.getD i 0 ∈ vs := by rw [List.getD_eq_getElem?_getD, List.getElem?_eq_getElem hil]; exact List.getElem_mem _
          have hvb := HV.out _ hvm
          have HSU := Aside0.mk (foldl_take_succ (few1 (fewRow vs a) ((a + 1 : Nat) : Int)) (-1) vs i hil)
          obtain ⟨v, hv⟩ : ∃ v, vs.getD i 0 = v := ⟨_, rfl⟩
          rw [hv] at hval hvb hvm HSU
          clear hv
          obtain ⟨v1, v2⟩ := hvb
          have hca := HR4.out.cell (a + 1) (by rw [HF4.out.len]; exact hlt)
          have hfa := HR4.out.frozen (a + 1)
          obtain ⟨best, hbest⟩ : ∃ best, zs.getD (a + 1) 0 = best := ⟨_, rfl⟩
          rw [hbest] at hca HX4
          have HBE := Aside0.mk hbest
          clear hbest
          have HSU2 : Aside0 ((vs.take (i + 1)).foldl (few1 (fewRow vs a) ((a + 1 : Nat) : Int)) (-1) = few1 (fewRow vs a) ((a + 1 : Nat) : Int) best v) := ⟨by rw [HSU.out, ← HX4.out]⟩
          clear HSU HX4
          by_cases c1 : v ≤ (a : Int) + 1
          · obtain ⟨q, hq⟩ : ∃ q : Nat, (a : Int) + 1 - v = q := ⟨((a : Int) + 1 - v).toNat, by omega⟩
            have e2 : IntKind.i64.wrap ((a : Int) + 1 - v) = (q : Int) := by rw [IntKind.wrap_i64]; omega
            have hqn : q < m := by omega
            have hqz : (q : Int) < (m : Int) := by omega
            have hcq := HR4.out.cell q (by rw [HF4.out.len]; exact hqn)
            have hqf : zs.getD q 0 = few vs q := HF4.out.get q (by omega)
            have hqb := few_bound HV1.out q
            rw [hqf] at hcq
            have HCA : Aside0 (cand (fewRow vs a) ((a + 1 : Nat) : Int) v = if 0 ≤ few vs q then few vs q + 1 else -1) := ⟨by
              unfold cand
              rw [HF4.out.at_ v v1 (by omega), show (((a + 1 : Nat) : Int) - v).toNat = q by omega, hqf]
              by_cases h0 : 0 ≤ few vs q
              · rw [if_pos ⟨by omega, h0⟩, if_pos h0]
              · rw [if_neg (fun h => h0 h.2), if_neg h0]⟩
            obtain ⟨x, hx⟩ : ∃ x, few vs q = x := ⟨_, rfl⟩
            rw [hx] at hcq hqb HCA
            have d1 : decide (v ≤ (a : Int) + 1) = true := decide_eq_true c1
            clear hqf hx hq
            by_cases c2 : 0 ≤ x
            · have d2 : decide (0 ≤ x) = true := decide_eq_true c2
              have e3 : IntKind.i64.wrap (x + 1) = x + 1 := by rw [IntKind.wrap_i64]; omega
              have HC2 : Aside0 (cand (fewRow vs a) ((a + 1 : Nat) : Int) v = x + 1) := ⟨by rw [HCA.out, if_pos c2]⟩
              by_cases c3 : best < 0 ∨ x + 1 < best
              · have HXN : Aside0 ((zs.set (a + 1) (x + 1)).getD (a + 1) 0 = (vs.take (i + 1)).foldl (few1 (fewRow vs a) ((a + 1 : Nat) : Int)) (-1)) := ⟨by
                  rw [getD_set_self _ _ _ (by rw [HF4.out.len]; exact hlt), HSU2.out]
                  unfold few1
                  rw [HC2.out, if_pos ⟨by omega, c3⟩]⟩
                have HFN := Aside0.mk (HF4.out.set (x + 1))
                have HB5 : ∀ q, Aside0 (Below g w ((wr.drewN q).setCell ⟨g, a + 1, none⟩ (.int .i64 (x + 1)))) := fun q => ⟨(pw_below_drewN HB4.out q).setCell (Nat.le_refl _) _⟩
                have HR5 : ∀ q, Aside0 (RowN ((wr.drewN q).setCell ⟨g, a + 1, none⟩ (.int .i64 (x + 1))) g (zs.set (a + 1) (x + 1))) := fun q => ⟨(HR4.out.drewN q).set _ _⟩
                by_cases c4 : best < 0
                · have d3 : decide (best < 0) = true := decide_eq_true c4
                  clear c1 c2 c3 c4
                  go_wp2
                  go_quiet (fail)
                  go_wp2
                  go_roundg (vs.length - (i + 1))
                  case measure => omega
                  case rel => exact ⟨i + 1, zs.set (a + 1) (x + 1), by omega, by omega, by go_num, HB5 _, HR5 _, HFN, HXN⟩
                · have d3 : decide (best < 0) = false := decide_eq_false c4
                  have d4 : decide (x + 1 < best) = true := decide_eq_true (by omega)
                  clear c1 c2 c3 c4
                  go_wp2
                  go_quiet (fail)
                  go_wp2
                  go_roundg (vs.length - (i + 1))
                  case measure => omega
                  case rel => exact ⟨i + 1, zs.set (a + 1) (x + 1), by omega, by omega, by go_num, HB5 _, HR5 _, HFN, HXN⟩
              · have HXN : Aside0 (zs.getD (a + 1) 0 = (vs.take (i + 1)).foldl (few1 (fewRow vs a) ((a + 1 : Nat) : Int)) (-1)) := ⟨by
                  rw [HSU2.out, HBE.out]
                  unfold few1
                  rw [HC2.out, if_neg (fun h => c3 h.2)]⟩
                have d3 : decide (best < 0) = false := decide_eq_false (by omega)
                have d4 : decide (x + 1 < best) = false := decide_eq_false (by omega)
                have HB5 : ∀ q, Aside0 (Below g w (wr.drewN q)) := fun q => ⟨pw_below_drewN HB4.out q⟩
                have HR5 : ∀ q, Aside0 (RowN (wr.drewN q) g zs) := fun q => ⟨HR4.out.drewN q⟩
                clear c1 c2 c3
                go_wp2
                go_quiet (fail)
                go_wp2
                go_roundg (vs.length - (i + 1))
                case measure => omega
                case rel => exact ⟨i + 1, zs, by omega, by omega, by go_num, HB5 _, HR5 _, HF4, HXN⟩
            · have d2 : decide (0 ≤ x) = false := decide_eq_false c2
              have HXN : Aside0 (zs.getD (a + 1) 0 = (vs.take (i + 1)).foldl (few1 (fewRow vs a) ((a + 1 : Nat) : Int)) (-1)) := ⟨by
                rw [HSU2.out, HBE.out]
                unfold few1
                rw [HCA.out, if_neg c2, if_neg (fun h => absurd h.1 (by omega))]⟩
              have HB5 : ∀ q, Aside0 (Below g w (wr.drewN q)) := fun q => ⟨pw_below_drewN HB4.out q⟩
              have HR5 : ∀ q, Aside0 (RowN (wr.drewN q) g zs) := fun q => ⟨HR4.out.drewN q⟩
              clear c1 c2
              go_wp2
              go_quiet (fail)
              go_wp2
              go_roundg (vs.length - (i + 1))
              case measure => omega
              case rel => exact ⟨i + 1, zs, by omega, by omega, by go_num, HB5 _, HR5 _, HF4, HXN⟩
          · have d1 : decide (v ≤ (a : Int) + 1) = false := decide_eq_false c1
            have HXN : Aside0 (zs.getD (a + 1) 0 = (vs.take (i + 1)).foldl (few1 (fewRow vs a) ((a + 1 : Nat) : Int)) (-1)) := ⟨by
              rw [HSU2.out, HBE.out]
              have h9 : cand (fewRow vs a) ((a + 1 : Nat) : Int) v = -1 := if_neg (fun h => c1 (by have := h.1; omega))
              unfold few1
              rw [h9, if_neg (fun h => absurd h.1 (by omega))]⟩
            have HB5 : ∀ q, Aside0 (Below g w (wr.drewN q)) := fun q => ⟨pw_below_drewN HB4.out q⟩
            have HR5 : ∀ q, Aside0 (RowN (wr.drewN q) g zs) := fun q => ⟨HR4.out.drewN q⟩
            clear c1
            go_wp2
            go_quiet (fail)
            go_wp2
            go_roundg (vs.length - (i + 1))
            case measure => omega
            case rel => exact ⟨i + 1, zs, by omega, by omega, by go_num, HB5 _, HR5 _, HF4, HXN⟩
        · have hilz : ¬ (i : Int) < (vs.length : Int) := by omega
          have HXE : Aside0 (zs.getD (a + 1) 0 = vs.foldl (few1 (fewRow vs a) ((a + 1 : Nat) : Int)) (-1)) := ⟨by rw [HX4.out, List.take_of_length_le (by omega)]⟩
          have HFE := Aside0.mk (HF4.out.next HXE.out)
          go_wp2
          go_roundg (m - (a + 1 + 1))
          case measure => omega
          case rel => exact ⟨a + 1, zs, by omega, by omega, by go_num, HB4, HR4, HFE⟩
    · have hltz : ¬ (a : Int) + 1 ≤ (n : Int) := by have := HM.out; omega
      have HKM : Aside0 (a + 1 = m) := ⟨by omega⟩
      go_wp2
      go_ret
      have hxs : xs = fewRow vs n := by
        have h := HF.out
        rw [HKM.out, HM.out] at h
        exact h.all
      refine ⟨_, rfl, ?_, ?_⟩
      · rw [HG.out, ← hxs]
        exact Kd.R_of_own (own_rowN HRW.out HF.out.len (Nat.le_refl _) (by omega)) (fun _ _ => trivial)
      · rw [HG.out]
        exact HB.out
def spec_l01Fewest.f (l0 : List Int) (a1 : Int) : Option (List Int) := if ((0 ≤ a1 ∧ a1 ≤ 1000000) ∧ l0.length ≤ 1048576) ∧ l0.all (fun v => decide (1 ≤ v ∧ v ≤ 1099511627776)) = true then some (fewRow l0 a1.toNat) else none
theorem spec_l01Fewest.calls (A0 : Option Addr) (c0 : Nat) (l0 : List Int) (a1 : Int) (r : List Int) (w : World) (hr0 : Kd.C (Kd.int .i64) w A0 l0.length l0) (hc0 : l0.length ≤ c0) (h : spec_l01Fewest.f l0 a1 = some r) :
    Calls Try.prog 40 #[.slice A0 l0.length c0, .int .i64 a1] w fun e w' => ∃ v0_ : Value, e = .returned (v0_) ∧ Kd.R (Kd.int .i64) 2 w' w.heap.size (fun _ => True) v0_ r ∧ Below w.heap.size w w' := by
  unfold spec_l01Fewest.f at h
  split at h
  · rename_i hh
    injection h with h
    subst h
    have := l01Fewest_any A0 c0 l0 a1.toNat w hr0 hc0 hh.1.2 (fun v hv => by simpa using List.all_eq_true.1 hh.2 v hv) (by omega)
    rwa [Int.toNat_of_nonneg hh.1.1.1] at this
  · cases h
end Go.Proofs.Ytlcnjpibfjhibaa.Q
