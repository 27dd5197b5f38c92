/- slices.DeleteFunc at i.Lane, of a slice of the call's own: what is left, in its order. -/
import Derived.Test.YtgchiepnodoohaaCloneLane
import Derived.Test.YtgchiepnodoohaaIdx
import Derived.Test.YtgchiepnodoohaaNet
set_option linter.unusedVariables false
set_option linter.unusedSimpArgs false
namespace Go.Proofs.Ytgchiepnodoohaa.Q
open Go.RowKit Go.Proofs.YtgchiepnodoohaaW.PrintWords Go.Proofs.YtgchiepnodoohaaW.PrintLast Go.Proofs.YtgchiepnodoohaaW.PrintMore
theorem take_set_at {α : Type} (l : List α) (v : α) (i : Nat) (h : i < l.length) : (l.set i v).take (i + 1) = l.take i ++ [v] := by
  apply List.ext_getElem?
  intro j
  rcases Nat.lt_trichotomy j i with hj | hj | hj
  · rw [List.getElem?_take_of_lt (by omega), List.getElem?_set_ne (by omega), List.getElem?_append_left (by rw [List.length_take]; omega), List.getElem?_take_of_lt hj]
  · subst hj
    rw [List.getElem?_take_of_lt (by omega), List.getElem?_set_self h, List.getElem?_append_right (by rw [List.length_take]; omega)]
    simp [List.length_take, Nat.min_eq_left (Nat.le_of_lt h)]
  · rw [List.getElem?_take_eq_none (by omega), List.getElem?_eq_none]
    simp [List.length_take]
    omega
theorem take_snoc_at {α : Type} (l : List α) (z : α) (j : Nat) (h : j < l.length) : l.take (j + 1) = l.take j ++ [l.getD j z] := by
  rw [List.getD_eq_getElem?_getD, List.getElem?_eq_getElem h]
  exact List.take_succ_eq_append_getElem h
theorem lane_one (y : S82) : ∀ q ∈ ([.int .i8 y.f0, .int .i8 y.f1, .int .i16 y.f2, .int .i16 y.f3] : List Value), q.oneCell' = true := by
  intro q hq
  simp at hq
  rcases hq with rfl | rfl | rfl | rfl <;> rfl
set_option maxHeartbeats 2000000 in
set_option maxRecDepth 100000 in
theorem delFunc_Lane (g : Nat) (lb : Array Value) (eg : ∀ args w, (callFunc g args).run Try.prog w = .ok (.enter g args) w) (p : S82 → Bool) (base : Nat) (v : Value) (l : List S82) (w : World) (hbase : base ≤ w.heap.size) (hR : Kd.R k82 82 w base (fun _ => True) v l) (hl : l.length ≤ 1048576)
    (hp : ∀ (W : World) (x : S82), x ∈ l → Below base w W → Calls Try.prog g (#[.agg #[.int .i8 x.f0, .int .i8 x.f1, .int .i16 x.f2, .int .i16 x.f3]] ++ lb) W fun e w' => e = .returned (.bool (p x)) ∧ Below W.heap.size W w') :
    Calls Try.prog 83 #[v, .func (.func g) #[] lb] w fun e w' => ∃ v' : Value, e = .returned v' ∧ Kd.R k82 82 w' base (fun _ => True) v' (l.filter fun x => !p x) ∧ Below base w w' := by
  obtain ⟨A, c, rfl, hc, hC⟩ := Kd.R_reads hR
  have HC := Aside0.mk hC
  have HR := Aside0.mk hR
  have HP := Aside0.mk hp
  clear hC hR hp
  have hp1 : Aside0 (PredLane g lb p l w) := ⟨fun W x hx hb => HP.out W x hx (hb.mono hbase)⟩
  cases hi : l.findIdx? p with
  | none =>
    have HI : Aside0 (idxLane p l = -1) := ⟨by unfold idxLane; rw [hi]⟩
    have HF : Aside0 ((l.filter fun x => !p x) = l) := ⟨by
      rw [List.filter_eq_self]
      intro x hx
      rw [List.findIdx?_eq_none_iff] at hi
      simp [hi x hx]⟩
    clear hi
    go_enter Try.func83, Try.ntmps83
    go_wp2_with fail
    refine (indexFunc_Lane g lb eg p A c l w HC.out hc hp1.out).mono ?_
    rintro e w1 ⟨rfl, hb⟩
    rw [HI.out]
    have HB := Aside0.mk hb
    clear hb
    go_wp2
    go_ret
    rw [HF.out]
    exact ⟨_, rfl, Kd.R_mono (Kd.R_below HR.out HB.out) (fun _ _ => trivial), HB.out.mono hbase⟩
  | some i0 =>
    have HI : Aside0 (idxLane p l = (i0 : Int)) := ⟨by unfold idxLane; rw [hi]⟩
    rw [List.findIdx?_eq_some_iff_getElem] at hi
    obtain ⟨hi0, hip, hin⟩ := hi
    have HF : Aside0 (l.take i0 = (l.take (i0 + 1)).filter fun x => !p x) := ⟨by
      rw [List.take_succ_eq_append_getElem hi0, List.filter_append]
      have h1 : (l.take i0).filter (fun x => !p x) = l.take i0 := by
        rw [List.filter_eq_self]
        intro x hx
        obtain ⟨j, hj, rfl⟩ := List.getElem_of_mem hx
        rw [List.length_take] at hj
        rw [List.getElem_take]
        have := hin j (by omega)
        simp [this]
      rw [h1]
      simp [hip]⟩
    obtain ⟨gr, cap, he, hgb, hgl, cells, hcells⟩ := Kd.R_form HR.out (by omega)
    injection he with ha _ hcap
    subst ha hcap
    clear hip hin hcells
    go_enter Try.func83, Try.ntmps83
    go_wp2_with fail
    refine (indexFunc_Lane g lb eg p _ c l w HC.out hc hp1.out).mono ?_
    rintro e w1 ⟨rfl, hb⟩
    rw [HI.out]
    have HR1 : Aside0 (Kd.R k82 82 w1 base (fun _ => True) (.slice (some ⟨gr, 0, none⟩) l.length c) l) := ⟨Kd.R_mono (Kd.R_below HR.out hb) (fun _ _ => trivial)⟩
    have HB := Aside0.mk (hb.mono hbase)
    clear hb HR
    have hne : ((i0 : Int) == -1) = false := beq_false_of_ne (by omega)
    go_wp2
    go_loopg [5, 6] l.length (fun gg v5 v6 wr => ∃ (i j : Nat) (xs : List S82), i < j ∧ j ≤ l.length ∧ xs.length = l.length ∧ l.length - j ≤ gg ∧ v5 = .int .i64 i ∧ v6 = .int .i64 j ∧ Aside0 (Kd.R k82 82 wr base (fun _ => True) (.slice (some ⟨gr, 0, none⟩) l.length c) xs) ∧ Aside0 (Below base w wr) ∧ Aside0 (xs.take i = (l.take j).filter fun x => !p x) ∧ Aside0 (xs.drop j = l.drop j))
    case atStart => exact ⟨i0, i0 + 1, l, by omega, by omega, rfl, by omega, rfl, by go_num, HR1, HB, HF, ⟨rfl⟩⟩
    case round =>
      obtain ⟨i, j, xs, hij, hj, hxl, hgg, rfl, rfl, HO, BW, HT, HD⟩ := hrel
      by_cases hlt : j < l.length
      · have hltz : (j : Int) < (l.length : Int) := by omega
        obtain ⟨cj, hcl, hM, hcc, hfr⟩ := Kd.R_elem HO.out z82 (j : Int) (by omega) (by omega)
        obtain rfl := k82_openM hM
        have hgd : xs.getD j z82 = l.getD j z82 := by
          have h1 : (xs.drop j)[0]? = (l.drop j)[0]? := by rw [HD.out]
          simp only [List.getElem?_drop, Nat.add_zero] at h1
          rw [List.getD_eq_getElem?_getD, List.getD_eq_getElem?_getD, h1]
        rw [Int.toNat_natCast, hgd] at hcc
        have hx0 : wr.cell? ⟨gr, j * 4, none⟩ = some (.int .i8 (l.getD j z82).f0) := hcc 0 _ rfl
        have hx1 : wr.cell? ⟨gr, j * 4 + 1, none⟩ = some (.int .i8 (l.getD j z82).f1) := hcc 1 _ rfl
        have hx2 : wr.cell? ⟨gr, j * 4 + 2, none⟩ = some (.int .i16 (l.getD j z82).f2) := hcc 2 _ rfl
        have hx3 : wr.cell? ⟨gr, j * 4 + 3, none⟩ = some (.int .i16 (l.getD j z82).f3) := hcc 3 _ rfl
        have hmem : l.getD j z82 ∈ l := by rw [List.getD_eq_getElem?_getD, List.getElem?_eq_getElem hlt]; exact List.getElem_mem hlt
        have hcall := fun y => HP.out (wr.alloc (.cells #[.int .i8 (l.getD j z82).f0, .int .i8 (l.getD j z82).f1, .int .i16 (l.getD j z82).f2, .int .i16 (l.getD j z82).f3] 82)) (l.getD j z82) hmem (BW.out.alloc y _)
        replace hcall := hcall (Nat.le_trans hbase BW.out.size)
        have HSN : Aside0 (l.take (j + 1) = l.take j ++ [l.getD j z82]) := ⟨take_snoc_at l z82 j hlt⟩
        clear hcl hM hcc hfr hgd hmem
        generalize l.getD j z82 = y at hx0 hx1 hx2 hx3 hcall HSN
        have hgw : gr < wr.heap.size := by
          have h1 := BW.out.size
          omega
        cases hq : p y with
        | true =>
          rw [hq] at hcall
          have HQ := Aside0.mk hq
          clear hq
          go_wp2_with (go_at_fn g; refine hcall.mono ?_; rintro e w' ⟨rfl, hb'⟩)
          have HBX := Aside0.mk (below_call hb')
          clear hb'
          go_roundg (l.length - (j + 1))
          case measure => omega
          case rel => exact ⟨i, j + 1, xs, by omega, by omega, hxl, by omega, rfl, by go_num, ⟨Kd.R_mono (Kd.R_below HO.out HBX.out) (fun _ _ => trivial)⟩, ⟨BW.out.trans (HBX.out.mono (Nat.le_trans hbase BW.out.size))⟩, ⟨by rw [HT.out, HSN.out, List.filter_append]; simp [HQ.out]⟩, ⟨by rw [← List.drop_drop, ← List.drop_drop, HD.out]⟩⟩
        | false =>
          rw [hq] at hcall
          have HQ := Aside0.mk hq
          clear hq
          have hiz : (i : Int) < (l.length : Int) := by omega
          go_wp2_with (first | (go_at_fn g; refine hcall.mono ?_; rintro e w' ⟨rfl, hb'⟩; have HBX := Aside0.mk (below_call hb'); have hx7_0 : w'.cell? ⟨wr.heap.size, 0, none⟩ = some (.int .i8 y.f0) := (hb'.cell (p := ⟨wr.heap.size, 0, none⟩) (by simp)).trans (by go_simp); have hx7_1 : w'.cell? ⟨wr.heap.size, 1, none⟩ = some (.int .i8 y.f1) := (hb'.cell (p := ⟨wr.heap.size, 1, none⟩) (by simp)).trans (by go_simp); have hx7_2 : w'.cell? ⟨wr.heap.size, 2, none⟩ = some (.int .i16 y.f2) := (hb'.cell (p := ⟨wr.heap.size, 2, none⟩) (by simp)).trans (by go_simp); have hx7_3 : w'.cell? ⟨wr.heap.size, 3, none⟩ = some (.int .i16 y.f3) := (hb'.cell (p := ⟨wr.heap.size, 3, none⟩) (by simp)).trans (by go_simp); have HOW : Aside0 (Kd.R k82 82 w' base (fun _ => True) (.slice (some ⟨gr, 0, none⟩) l.length c) xs) := ⟨Kd.R_mono (Kd.R_below HO.out HBX.out) (fun _ _ => trivial)⟩; have HBW : Aside0 (Below base w w') := ⟨BW.out.trans (HBX.out.mono (Nat.le_trans hbase BW.out.size))⟩; obtain ⟨ce, hcl, hM, hcc, hfr⟩ := Kd.R_elem HOW.out z82 (i : Int) (by omega) (by omega); have CE := Aside0.mk hcl; have CC := Aside0.mk hcc; obtain rfl := k82_openM hM; have hy0 := hcc 0 _ rfl; have hy1 := hcc 1 _ rfl; have hy2 := hcc 2 _ rfl; have hy3 := hcc 3 _ rfl; have hf0 := hfr 0; have hf1 := hfr 1; have hf2 := hfr 2; have hf3 := hfr 3; simp only [show k82.sz = 4 from rfl, Nat.mul_one, Nat.add_zero, Int.toNat_natCast] at hy0 hy1 hy2 hy3 hf0 hf1 hf2 hf3; clear hcl hcc hM hfr hb'))
          have HSG := Aside0.mk (Kd.R_seg HOW.out (i : Int) (by omega) (by omega) (seg := [.int .i8 y.f0, .int .i8 y.f1, .int .i16 y.f2, .int .i16 y.f3]) (j := 0) CE.out CC.out (show 4 ≤ 4 from by decide) (x' := y) (k82_mkM _ _ (fun _ => False) y) (fun _ h => h.elim))
          clear hy0 hy1 hy2 hy3 hf0 hf1 hf2 hf3 hx7_0 hx7_1 hx7_2 hx7_3
          go_roundg (l.length - (j + 1))
          case measure => omega
          case rel => exact ⟨i + 1, j + 1, xs.set i y, by omega, by omega, by rw [List.length_set]; exact hxl, by omega, by go_num, by go_num, ⟨HSG.out.1⟩, ⟨Below.grown HBW.out HSG.out.2 (Nat.le_trans hbase (by have := HBW.out.size; omega)) (fun b hb => by injection hb with hb; omega)⟩, ⟨by rw [take_set_at _ _ _ (by omega), HT.out, HSN.out, List.filter_append]; simp [HQ.out]⟩, ⟨by rw [List.drop_set_of_lt (by omega), ← List.drop_drop, ← List.drop_drop, HD.out]⟩⟩
      · have hj2 : j = l.length := by omega
        subst hj2
        have hltz : ¬ (l.length : Int) < (l.length : Int) := by omega
        obtain ⟨zs, hzs⟩ : ∃ zs, (Builtin.zeroCells (Value.agg #[.int .i8 0, .int .i8 0, .int .i16 0, .int .i16 0]).cells (l.length - i)).toList = zs := ⟨_, rfl⟩
        have hzl : zs.length = (l.length - i) * 4 := by rw [← hzs, zeroCells_length]; rfl
        have hz1 : ∀ v ∈ zs, v.oneCell' = true := by
          rw [← hzs]
          exact zeroCells_one _ (fun i hi => by match i, hi with | 0, _ => rfl | 1, _ => rfl | 2, _ => rfl | 3, _ => rfl) (by decide) _
        have hcell : ∀ q, q < zs.length → (wr.cell? ⟨gr, i * 4 + q, none⟩).isSome = true ∧ wr.frozen? ⟨gr, i * 4 + q, none⟩ = false := fun q hq => R_cellAt HO.out z82 (by decide) (i * 4 + q) (by rw [show k82.sz = 4 from rfl]; omega)
        have hcl : ∀ ty, (Builtin.clear_ #[29] ty #[.slice (some ⟨gr, i * 4, none⟩) (l.length - i) (c - i)]).run Try.prog wr = .ok (.tuple #[]) (wr.setCells gr (i * 4) zs) :=
          fun ty => run_clear_cells wr _ 82 ty _ Try.underlying29 Try.zeroValue82 _ zs hzs hz1 gr (i * 4) _ (by omega) (fun q hq => (hcell q hq).1) (fun q hq => (hcell q hq).2)
        have hHT : xs.take i = l.filter fun x => !p x := by
          have := HT.out
          rwa [List.take_length] at this
        have HFL := Aside0.mk hHT
        have hfl : (l.filter fun x => !p x).length = i := by
          rw [← hHT, List.length_take]
          omega
        have HFN := Aside0.mk hfl
        have HRT := Aside0.mk (R_beyond (Kd.R_take HO.out (m := i) (by omega)) rfl zs (o := i * 4) (Nat.le_refl _) (by rw [hzl, show k82.sz = 4 from rfl]; omega))
        have HSS : Aside0 (wr.grownBy (wr.setCells gr (i * 4) zs) (some gr)) := ⟨by
          obtain ⟨s1, s2, s3, s4⟩ := setCells_same gr zs (i * 4) wr
          exact ⟨s1, s2, s3, by rw [s4]; exact Nat.le_refl _, fun k _ hk => setCells_far zs _ k (fun he => hk (by rw [he]))⟩⟩
        have hic : i < c := by omega
        have hil : i < l.length := by omega
        clear hz1 hcell hzs hHT hfl HT HD
        go_wp2
        go_ret
        refine ⟨_, rfl, ?_, Below.grown BW.out HSS.out (Nat.le_trans hbase BW.out.size) (fun b hb => by injection hb with hb; omega)⟩
        rw [← HFL.out]
        exact HRT.out
end Go.Proofs.Ytgchiepnodoohaa.Q
