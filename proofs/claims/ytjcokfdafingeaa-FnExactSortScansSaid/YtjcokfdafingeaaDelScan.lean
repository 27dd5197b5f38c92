/- slices.Delete at i.Scan, of one element: the slice without it. For slices of one's own, of at most 1048576 elements. -/
import Derived.Test.YtjcokfdafingeaaRows2
import Derived.Deep.RegionLaw
import Derived.StillTailTactics
import Derived.Lib.AppendZeros
set_option linter.unusedVariables false
set_option linter.unusedSimpArgs false
namespace Go.Proofs.Ytjcokfdafingeaa.Q
open Go.RowKit Go.Proofs.YtjcokfdafingeaaW.PrintWords Go.Proofs.YtjcokfdafingeaaW.PrintLast Go.Proofs.YtjcokfdafingeaaW.PrintMore
theorem setCells_app (g : Nat) : ∀ (a b : List Value) (o : Nat) (w : World), w.setCells g o (a ++ b) = (w.setCells g o a).setCells g (o + a.length) b
  | [], b, o, w => rfl
  | v :: r, b, o, w => by
    show (w.setCell ⟨g, o, none⟩ v).setCells g (o + 1) (r ++ b) = ((w.setCell ⟨g, o, none⟩ v).setCells g (o + 1) r).setCells g (o + (r.length + 1)) b
    rw [setCells_app g r b, show o + 1 + r.length = o + (r.length + 1) by omega]
theorem grownBy_trans {w w1 w2 : World} {b : Option Nat} (h : w.grownBy w1 b) (h2 : w1.grownBy w2 b) : w.grownBy w2 b := by
  obtain ⟨a1, a2, a3, a4, a5⟩ := h
  obtain ⟨b1, b2, b3, b4, b5⟩ := h2
  exact ⟨b1.trans a1, b2.trans a2, b3.trans a3, Nat.le_trans a4 b4, fun k hk hb => (b5 k (Nat.lt_of_lt_of_le hk a4) hb).trans (a5 k hk hb)⟩
theorem take_set_here {α : Type} (l : List α) (v : α) (i : Nat) (h : i < l.length) : (l.set i v).take (i + 1) = l.take i ++ [v] := by
  rw [List.take_succ_eq_append_getElem (by rw [List.length_set]; exact h), List.getElem_set_self, List.take_set_of_le (Nat.le_refl _)]
/-- A run of whole elements of a row of one's own is written. -/
theorem R_segs {α : Type} {d : Kd α} {e base g n cap : Nat} {ok okp : Nat → Prop} (enc : α → List Value) (he : ∀ x, (enc x).length = d.sz) (hM : ∀ (W : World) (x : α), d.M W base okp x (enc x)) (hokp : ∀ k, okp k → ok k ∧ k ≠ g) (z : α) :
    ∀ (ys : List α) (i : Nat) (W : World) (xs : List α), d.R e W base ok (.slice (some ⟨g, 0, none⟩) n cap) xs → i + ys.length ≤ n →
    d.R e (W.setCells g (i * d.sz) (ys.flatMap enc)) base ok (.slice (some ⟨g, 0, none⟩) n cap) (xs.take i ++ ys ++ xs.drop (i + ys.length)) ∧ W.grownBy (W.setCells g (i * d.sz) (ys.flatMap enc)) (some g)
  | [], i, W, xs, h, hl => by
    refine ⟨?_, ⟨rfl, rfl, rfl, Nat.le_refl _, fun _ _ _ => rfl⟩⟩
    rw [List.append_nil, List.length_nil, Nat.add_zero, List.take_append_drop]
    exact h
  | y :: ys, i, W, xs, h, hl => by
    have hn := (Kd.R_reads' h).1
    rw [List.length_cons] at hl
    obtain ⟨c, hcl, _, hcc, _⟩ := Kd.R_elem h z (i : Int) (by omega) (by omega)
    have hs := Kd.R_seg h (i : Int) (by omega) (by omega) (c := c) (seg := enc y) (j := 0) hcl hcc (by rw [he]; omega) (x' := y) (okp := okp) (by
      rw [List.take_zero, List.nil_append, Nat.zero_add, he, ← hcl, List.drop_length, List.append_nil]
      exact hM W y) hokp
    rw [Int.toNat_natCast, Nat.add_zero] at hs
    have ih := R_segs (d := d) (e := e) (base := base) (g := g) (n := n) (cap := cap) (ok := ok) (okp := okp) enc he hM hokp z ys (i + 1) _ _ hs.1 (by omega)
    have e1 : (y :: ys).flatMap enc = enc y ++ ys.flatMap enc := rfl
    have e2 : i * d.sz + (enc y).length = (i + 1) * d.sz := by rw [he, Nat.succ_mul]
    rw [e1, setCells_app, e2]
    refine ⟨?_, grownBy_trans hs.2 ih.2⟩
    have e3 : (xs.set i y).take (i + 1) ++ ys ++ (xs.set i y).drop (i + 1 + ys.length) = xs.take i ++ (y :: ys) ++ xs.drop (i + (ys.length + 1)) := by
      rw [take_set_here _ _ _ (by omega), List.drop_set_of_lt (by omega), show i + 1 + ys.length = i + (ys.length + 1) by omega]
      simp
    rw [List.length_cons, ← e3]
    exact ih.1
def encScan (y : S47) : List Value := [.int .i8 y.f0, .int .i16 y.f1]
theorem scan_one (y : S47) : ∀ q ∈ encScan y, q.oneCell' = true := by
  intro q hq
  simp only [encScan, List.mem_cons, List.not_mem_nil, or_false] at hq
  rcases hq with rfl | rfl <;> rfl
theorem flat_len (ys : List S47) : (ys.flatMap encScan).length = ys.length * 2 := by
  induction ys with
  | nil => rfl
  | cons y r ih =>
    show (encScan y ++ r.flatMap encScan).length = _
    rw [List.length_append, ih, List.length_cons]
    show 2 + _ = _
    omega
theorem flat_get : ∀ (ys : List S47) (i j : Nat) (hi : i < ys.length) (hj : j < 2), (ys.flatMap encScan)[i * 2 + j]? = (encScan ys[i])[j]?
  | y :: r, 0, j, hi, hj => by
    show (encScan y ++ r.flatMap encScan)[0 * 2 + j]? = _
    rw [Nat.zero_mul, Nat.zero_add, List.getElem?_append_left (by show j < 2; exact hj)]
    rfl
  | y :: r, i + 1, j, hi, hj => by
    show (encScan y ++ r.flatMap encScan)[(i + 1) * 2 + j]? = _
    rw [List.getElem?_append_right (by show 2 ≤ _; omega), show (i + 1) * 2 + j - (encScan y).length = i * 2 + j by show _ - 2 = _; omega, flat_get r i j (by simpa using hi) hj]
    rfl
set_option maxHeartbeats 4000000 in
set_option maxRecDepth 100000 in
theorem delete_Scan (base : Nat) (v : Value) (l : List S47) (i : Nat) (j : Int) (w : World) (hbase : base ≤ w.heap.size) (hR : Kd.R k47 47 w base (fun _ => True) v l) (hi : i < l.length) (hj : j = (i : Int) + 1) (hl : l.length ≤ 1048576) :
    Calls Try.prog 68 #[v, .int .i64 (i : Int), .int .i64 j] w fun e w' => ∃ v' : Value, e = .returned v' ∧ Kd.R k47 47 w' base (fun _ => True) v' (l.eraseIdx i) ∧ Below base w w' := by
  obtain ⟨g, c, rfl, hgb, hgl, cells, hcells⟩ := Kd.R_form hR (by omega)
  obtain ⟨_, hlc, hC⟩ := Kd.R_reads' hR
  have HR := Aside0.mk hR
  have HC := Aside0.mk hC
  clear hR hC hcells
  obtain ⟨n, hn⟩ : ∃ n, l.length = n := ⟨_, rfl⟩
  have HN := Aside0.mk hn
  rw [hn] at hi hl hlc HR HC ⊢
  obtain ⟨jn, hjn⟩ : ∃ jn : Nat, jn = i + 1 := ⟨_, rfl⟩
  have hjz : j = (jn : Int) := by omega
  subst hjz
  have hij : i < jn := by omega
  have hjn1 : jn ≤ n := by omega
  have HJ := Aside0.mk hjn
  clear hjn hj hn
  have hne : ((i : Int) == (jn : Int)) = false := beq_false_of_ne (by omega)
  go_enter Try.func68, Try.ntmps68
  go_wp2
  have hdl : (l.drop jn).length = n - jn := by rw [List.length_drop, HN.out]
  have hll := HN.out
  obtain ⟨news, hnews⟩ : ∃ news, news = (l.drop jn).flatMap encScan := ⟨_, rfl⟩
  have hnl : news.length = (n - jn) * 2 := by rw [hnews, flat_len, hdl]
  have hn1 : ∀ u ∈ news, u.oneCell' = true := by
    intro u hu
    rw [hnews, List.mem_flatMap] at hu
    obtain ⟨y, _, hy⟩ := hu
    exact scan_one y u hy
  have hcell : ∀ q, q < n * 2 → (w.cell? ⟨g, q, none⟩).isSome = true ∧ w.frozen? ⟨g, q, none⟩ = false := fun q hq => R_cellAt HR.out z47 (by decide) q hq
  obtain ⟨ad, had⟩ : ∃ ad : Addr, ad = (if c = jn then ⟨g, 0, none⟩ else ⟨g, jn * 2, none⟩) := ⟨_, rfl⟩
  have hread : ∀ q u, news[q]? = some u → w.cell? (ad.add q) = some u := by
    intro q u hq
    have hql : q < news.length := (List.getElem?_eq_some_iff.1 hq).1
    have hcj : c ≠ jn := by omega
    rw [had, if_neg hcj]
    have hq2 : q / 2 < (l.drop jn).length := by omega
    have h1 := flat_get (l.drop jn) (q / 2) (q % 2) hq2 (Nat.mod_lt _ (by decide))
    rw [show q / 2 * 2 + q % 2 = q by omega, ← hnews, hq] at h1
    obtain ⟨cj, hcl, hM, hcc, hfr⟩ := Kd.R_elem HR.out z47 ((jn + q / 2 : Nat) : Int) (by omega) (by omega)
    obtain rfl := k47_openM hM
    have h2 : l.getD (jn + q / 2) z47 = (l.drop jn)[q / 2] := by
      rw [List.getD_eq_getElem?_getD, List.getElem_drop, List.getElem?_eq_getElem (by omega)]
      rfl
    rw [Int.toNat_natCast, h2] at hcc
    have h3 := hcc (q % 2) u h1.symm
    rw [show (jn + q / 2) * k47.sz + q % 2 = jn * 2 + q by show (jn + q / 2) * 2 + q % 2 = _; omega] at h3
    rw [Addr.add_lit]
    exact h3
  have hap : ∀ ty (V : World), V = w.drew → (Builtin.append_ #[53, 53] ty #[.slice (some ⟨g, 0, none⟩) i c, .slice (some ad) (n - jn) (c - jn)]).run Try.prog V = .ok (.slice (some ⟨g, 0, none⟩) (i + (n - jn)) c) (V.setCells g (i * 2) news) := by
    rintro ty V rfl
    obtain ⟨i0, hi0, hzz⟩ := Option.map_eq_some_iff.1 info47
    simp only [Prod.mk.injEq] at hzz
    have hsz := hzz.2.1
    have := run_append_room_cells (P := Try.prog) (w := w.drew) 53 ty 47 i0 Try.underlying53 hi0 g 0 i c ad (n - jn) (c - jn) news (by rw [hsz]; exact hnl) hread hn1 (by omega) (fun q hq => (hcell _ (by rw [hnl] at hq; rw [hsz]; omega)).1) (fun q hq => (hcell _ (by rw [hnl] at hq; rw [hsz]; omega)).2)
    rw [Nat.zero_add, hsz] at this
    exact this
  have hicn : i ≤ c := by omega
  have hic : (i : Int) ≤ (c : Int) := by omega
  have hjz : (jn : Int) ≤ (n : Int) := by omega
  have hsl : ∀ V, (Instr.slice 53 (.slice (some ⟨g, 0, none⟩) n c) (some (.int .i64 (jn : Int))) none none).run Try.prog V = .ok (.slice (some ad) (n - jn) (c - jn)) V := by
    intro V
    obtain ⟨i0, hi0, hzz⟩ := Option.map_eq_some_iff.1 info47
    simp only [Prod.mk.injEq] at hzz
    rw [cut_from 53 47 .i64 Try.underlying53 hi0 2 hzz.2.1 (some ⟨g, 0, none⟩) n c (jn : Int) (by omega) hjz, Int.toNat_natCast, had]
    by_cases hcj : c = jn
    · rw [if_pos hcj, if_pos hcj]
    · rw [if_neg hcj, if_neg hcj]
      show Result.ok (Value.slice (some (Addr.add ⟨g, 0, none⟩ (jn * 2))) (n - jn) (c - jn)) V = _
      rw [Addr.add_lit, Nat.zero_add]
  clear had hcell
  have HAP := Aside0.mk hap
  have HNW := Aside0.mk hnews
  have HSG := Aside0.mk (R_segs (d := k47) (ok := fun _ => True) (okp := fun _ => False) encScan (fun _ => rfl) (fun W x => k47_mkM _ _ (fun _ => False) x) (fun _ h => h.elim) z47 (l.drop jn) i w.drew l (Kd.R_mono (Kd.R_below HR.out (Below.refl _ _).drew) (fun _ _ => trivial)) (by omega))
  clear hap hnews hread hn1
  go_still_tail 6, (by kernel_rfl)
  refine Lib.wpList_append_run w.drew rfl (.tmp 22) (.tmp 25) 53 53 rfl _ _ rfl rfl _ _ (HAP.out _ _ rfl) ?_
  obtain ⟨w2, hw2⟩ : ∃ w2, w2 = w.drew.setCells g (i * 2) news := ⟨_, rfl⟩
  have HS2 : Aside0 (Kd.R k47 47 w2 base (fun _ => True) (.slice (some ⟨g, 0, none⟩) n c) (l.take i ++ l.drop jn ++ l.drop (i + (n - jn))) ∧ w.drew.grownBy w2 (some g)) := ⟨by
    rw [hw2, HNW.out]
    have := HSG.out
    rw [hdl] at this
    exact this⟩
  rw [← hw2]
  clear hw2 HSG HAP HNW hnl hsl
  have hmn : i + (n - jn) = n - 1 := by have := HJ.out; omega
  rw [hmn] at HS2 ⊢
  have hxl : (l.take i ++ l.drop jn).length = n - 1 := by rw [List.length_append, hdl, List.length_take, hll]; omega
  have hfin : Aside0 (l.eraseIdx i = l.take i ++ l.drop jn) := ⟨by rw [List.eraseIdx_eq_take_drop_succ, HJ.out]⟩
  have HR2 : Aside0 (Kd.R k47 47 w2 base (fun _ => True) (.slice (some ⟨g, 0, none⟩) (n - 1) c) (l.take i ++ l.drop jn)) := ⟨by
    have h1 := Kd.R_take HS2.out.1 (m := n - 1) (by rw [List.length_append, hxl]; omega)
    rw [List.take_append_of_le_length (by omega), List.take_of_length_le (by omega)] at h1
    exact h1⟩
  obtain ⟨zs, hzs⟩ : ∃ zs, (Builtin.zeroCells (Value.agg #[.int .i8 0, .int .i16 0]).cells 1).toList = zs := ⟨_, rfl⟩
  have hzl : zs.length = 1 * 2 := by rw [← hzs, zeroCells_length]; rfl
  have hz1 : ∀ v ∈ zs, v.oneCell' = true := by
    rw [← hzs]
    exact zeroCells_one _ (fun i hi => by match i, hi with | 0, _ => rfl | 1, _ => rfl) (by decide) _
  have hcell : ∀ q, q < zs.length → (w2.cell? ⟨g, (n - 1) * 2 + q, none⟩).isSome = true ∧ w2.frozen? ⟨g, (n - 1) * 2 + q, none⟩ = false := fun q hq => R_cellAt HS2.out.1 z47 (by decide) ((n - 1) * 2 + q) (by rw [show k47.sz = 2 from rfl]; omega)
  have hcl : ∀ ty, (Builtin.clear_ #[53] ty #[.slice (some ⟨g, (n - 1) * 2, none⟩) 1 (c - (n - 1))]).run Try.prog w2 = .ok (.tuple #[]) (w2.setCells g ((n - 1) * 2) zs) :=
    fun ty => run_clear_cells w2 _ 47 ty _ Try.underlying53 Try.zeroValue47 _ zs hzs hz1 g ((n - 1) * 2) _ (by omega) (fun q hq => (hcell q hq).1) (fun q hq => (hcell q hq).2)
  have HRT := Aside0.mk (R_beyond HR2.out rfl zs (o := (n - 1) * 2) (Nat.le_refl _) (by rw [hzl, show k47.sz = 2 from rfl]; omega))
  have HSS : Aside0 (w2.grownBy (w2.setCells g ((n - 1) * 2) zs) (some g)) := ⟨by
    obtain ⟨s1, s2, s3, s4⟩ := setCells_same g zs ((n - 1) * 2) w2
    exact ⟨s1, s2, s3, by rw [s4]; exact Nat.le_refl _, fun k _ hk => setCells_far zs _ k (fun he => hk (by rw [he]))⟩⟩
  have HBB : Aside0 (Below base w w2) := ⟨Below.grown (Below.refl _ _).drew HS2.out.2 hbase (fun b hb => by injection hb with hb; omega)⟩
  obtain ⟨p, hp⟩ : ∃ p, p = n - 1 := ⟨_, rfl⟩
  have hpn : p < n := by omega
  have hpc : p < c := by omega
  have hp1 : n - p = 1 := by omega
  simp only [← hp] at *
  clear hp hz1 hcell hzs HS2 HR2 hxl hmn
  go_wp2
  go_ret
  refine ⟨_, rfl, ?_, Below.grown HBB.out HSS.out (by have := HBB.out.size; omega) (fun b hb => by injection hb with hb; omega)⟩
  rw [hfin.out]
  exact HRT.out
end Go.Proofs.Ytjcokfdafingeaa.Q
