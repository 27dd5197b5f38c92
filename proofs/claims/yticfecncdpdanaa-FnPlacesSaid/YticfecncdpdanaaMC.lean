/- Rows of the call's own, whatever their elements: an empty one just made; one that is cut and whose rest is cleared; the builtin clear at elements of several cells. -/
import Derived.Test.YticfecncdpdanaaQ0
import Derived.Lib.SliceRun
import Derived.Deep.RegionLaw
import Derived.StillTailTactics
import Derived.Lib.AppendZeros
import Derived.Test.YticfecncdpdanaaMA
import Derived.Lib.QuietBelow
import Derived.Deep.RegionHeldLaw
import Derived.Deep.QuietTactic
set_option linter.unusedVariables false
set_option linter.unusedSimpArgs false
namespace Go.Proofs.Yticfecncdpdanaa.Q
open Go.RowKit Go.Proofs.YticfecncdpdanaaW.PrintWords Go.Proofs.YticfecncdpdanaaW.PrintLast Go.Proofs.YticfecncdpdanaaW.PrintMore
theorem R_empty {α : Type} (d : Kd α) (e : Nat) (W : World) (base : Nat) (ok : Nat → Prop) (b : Nat) (he : b = W.heap.size) (hb : base ≤ W.heap.size) (ho : ok W.heap.size) : d.R e (W.alloc (.cells #[] e)) base ok (.slice (some ⟨b, 0, none⟩) 0 0) ([] : List α) := by
  subst he
  refine ⟨fun k hk => ?_, [], World.ownsRow_made W #[] 0 hb (by decide) (by simp), Reps.none _ _⟩
  have : W.heap.size = k := by simpa [Value.ownBlock] using hk
  exact this ▸ ho
/-- A row that is cut at i: whatever is laid behind that does not touch it. -/
theorem R_beyond {α : Type} {d : Kd α} {e : Nat} {W : World} {base g i cap o : Nat} {ok : Nat → Prop} {xs : List α} (h : d.R e W base ok (.slice (some ⟨g, 0, none⟩) i cap) xs) (hE : d.E = []) (vs : List Value) (ho : i * d.sz ≤ o) (hv : o + vs.length ≤ cap * d.sz) :
    d.R e (W.setCells g o vs) base ok (.slice (some ⟨g, 0, none⟩) i cap) xs := by
  obtain ⟨hn, hnc, _⟩ := Kd.R_reads' h
  obtain ⟨hok, inner, ⟨ho1, ho2⟩, hr⟩ := h
  rcases ho2 with ⟨hv', _⟩ | ⟨g', cap', cur, hv', hb, hh, hnc', hcm, hcs, ht⟩
  · cases hv'
  injection hv' with ha _ hc
  injection ha with ha
  injection ha with hg
  subst hg; subst hc
  obtain ⟨cur', h3, h4, h5⟩ := setCells_row vs o W cur hh (by omega)
  refine ⟨hok, inner, ⟨ho1, .inr ⟨g, cap, cur', by rw [← hn], hb, h3, hnc', hcm, by rw [h4, hcs], ?_⟩⟩, hr.imp_ (fun x cs hp => ?_)⟩
  · rw [h5, ← ht, ← hn]
    have hol : o ≤ cur.toList.length := by rw [Array.length_toList]; omega
    rw [List.append_assoc, List.take_append_of_le_length (by rw [List.length_take]; omega), List.take_take, Nat.min_eq_left (by omega)]
  · have hb' := d.M_bound hp
    refine d.M_mono (fun k hk => hk.1) (d.M_move (ok := fun k => _ ∧ base ≤ k ∧ k < W.heap.size ∧ ∃ q, q ∈ d.E ∧ ∃ cells, W.heap[k]? = some (.cells cells q (0, 0))) (fun k hk => ?_) hb')
    obtain ⟨_, _, _, q, hq, _⟩ := hk
    rw [hE] at hq
    cases hq
theorem run_clear_cells {P : Program} (w : World) (t e ty : TypeId) (z : Value) (ht : P.underlying t = some (.slice e)) (hv : ∀ w, (zeroValue e).run P w = .ok z w) (n : Nat) (zs : List Value) (hz : (Builtin.zeroCells z.cells n).toList = zs) (h1 : ∀ v ∈ zs, v.oneCell' = true) (b o c : Nat) (hn : 0 < n)
    (hc : ∀ j, j < zs.length → (w.cell? ⟨b, o + j, none⟩).isSome = true) (hf : ∀ j, j < zs.length → w.frozen? ⟨b, o + j, none⟩ = false) :
    (Builtin.clear_ #[t] ty #[.slice (some ⟨b, o, none⟩) n c]).run P w = .ok (.tuple #[]) (w.setCells b o zs) := by
  have hst := run_storeCells_cells (P := P) b o zs 0 w (by simpa using hc) (by simpa using hf) h1
  simp only [Nat.add_zero] at hst
  obtain ⟨m, rfl⟩ : ∃ m, n = m + 1 := ⟨n - 1, by omega⟩
  simp [Builtin.clear_, run_underlying ht, hv, hz, hst]
theorem R_cellAt {α : Type} {d : Kd α} {e : Nat} {W : World} {base g n cap : Nat} {ok : Nat → Prop} {xs : List α} (h : d.R e W base ok (.slice (some ⟨g, 0, none⟩) n cap) xs) (z : α) (hs : 0 < d.sz) (o : Nat) (ho : o < n * d.sz) : (W.cell? ⟨g, o, none⟩).isSome = true ∧ W.frozen? ⟨g, o, none⟩ = false := by
  have hlt : o / d.sz < n := (Nat.div_lt_iff_lt_mul hs).2 ho
  obtain ⟨q, hq⟩ : ∃ q : Nat, q = o / d.sz := ⟨_, rfl⟩
  rw [← hq] at hlt
  obtain ⟨c, hcl, _, hcc, hfr⟩ := Kd.R_elem h z ((q : Nat) : Int) (by omega) (by omega)
  have hm : o % d.sz < c.length := by rw [hcl]; exact Nat.mod_lt _ hs
  have h1 := hcc (o % d.sz) _ (List.getElem?_eq_getElem hm)
  have h2 := hfr (o % d.sz)
  rw [Int.toNat_natCast, hq, show o / d.sz * d.sz + o % d.sz = o by rw [Nat.mul_comm]; exact Nat.div_add_mod o d.sz] at h1 h2
  exact ⟨by rw [h1]; rfl, h2⟩
theorem zeroCells_one (zero : Array Value) (h : ∀ i, i < zero.size → (zero[i]!).oneCell' = true) (hs : 0 < zero.size) (n : Nat) : ∀ v ∈ (Builtin.zeroCells zero n).toList, v.oneCell' = true := by
  intro v hv
  simp only [Builtin.zeroCells, Array.toList_map, List.mem_map] at hv
  obtain ⟨i, _, rfl⟩ := hv
  exact h _ (Nat.mod_lt _ hs)
theorem zeroCells_length (zero : Array Value) (n : Nat) : (Builtin.zeroCells zero n).toList.length = n * zero.size := by
  simp [Builtin.zeroCells]
end Go.Proofs.Yticfecncdpdanaa.Q
/- slices.Delete at i.Scan, of one element: the slice without it. For slices of one's own, of at most 1048576 elements. -/
set_option linter.unusedVariables false
set_option linter.unusedSimpArgs false
namespace Go.Proofs.Yticfecncdpdanaa.Q
open Go.RowKit Go.Proofs.YticfecncdpdanaaW.PrintWords Go.Proofs.YticfecncdpdanaaW.PrintLast Go.Proofs.YticfecncdpdanaaW.PrintMore
theorem setCells_app (g : Nat) : ∀ (a b : List Value) (o : Nat) (w : World), w.setCells g o (a ++ b) = (w.setCells g o a).setCells g (o + a.length) b
  | [], b, o, w => rfl
  | v :: r, b, o, w => by
    show (w.setCell ⟨g, o, none⟩ v).setCells g (o + 1) (r ++ b) = ((w.setCell ⟨g, o, none⟩ v).setCells g (o + 1) r).setCells g (o + (r.length + 1)) b
    rw [setCells_app g r b, show o + 1 + r.length = o + (r.length + 1) by omega]
theorem grownBy_trans {w w1 w2 : World} {b : Option Nat} (h : w.grownBy w1 b) (h2 : w1.grownBy w2 b) : w.grownBy w2 b := by
  obtain ⟨a1, a2, a3, a4, a5⟩ := h
  obtain ⟨b1, b2, b3, b4, b5⟩ := h2
  exact ⟨b1.trans a1, b2.trans a2, b3.trans a3, Nat.le_trans a4 b4, fun k hk hb => (b5 k (Nat.lt_of_lt_of_le hk a4) hb).trans (a5 k hk hb)⟩
theorem take_set_here {α : Type} (l : List α) (v : α) (i : Nat) (h : i < l.length) : (l.set i v).take (i + 1) = l.take i ++ [v] := by
  rw [List.take_succ_eq_append_getElem (by rw [List.length_set]; exact h), List.getElem_set_self, List.take_set_of_le (Nat.le_refl _)]
/-- A run of whole elements of a row of one's own is written. -/
theorem R_segs {α : Type} {d : Kd α} {e base g n cap : Nat} {ok okp : Nat → Prop} (enc : α → List Value) (he : ∀ x, (enc x).length = d.sz) (hM : ∀ (W : World) (x : α), d.M W base okp x (enc x)) (hokp : ∀ k, okp k → ok k ∧ k ≠ g) (z : α) :
    ∀ (ys : List α) (i : Nat) (W : World) (xs : List α), d.R e W base ok (.slice (some ⟨g, 0, none⟩) n cap) xs → i + ys.length ≤ n →
    d.R e (W.setCells g (i * d.sz) (ys.flatMap enc)) base ok (.slice (some ⟨g, 0, none⟩) n cap) (xs.take i ++ ys ++ xs.drop (i + ys.length)) ∧ W.grownBy (W.setCells g (i * d.sz) (ys.flatMap enc)) (some g)
  | [], i, W, xs, h, hl => by
    refine ⟨?_, ⟨rfl, rfl, rfl, Nat.le_refl _, fun _ _ _ => rfl⟩⟩
    rw [List.append_nil, List.length_nil, Nat.add_zero, List.take_append_drop]
    exact h
  | y :: ys, i, W, xs, h, hl => by
    have hn := (Kd.R_reads' h).1
    rw [List.length_cons] at hl
    obtain ⟨c, hcl, _, hcc, _⟩ := Kd.R_elem h z (i : Int) (by omega) (by omega)
    have hs := Kd.R_seg h (i : Int) (by omega) (by omega) (c := c) (seg := enc y) (j := 0) hcl hcc (by rw [he]; omega) (x' := y) (okp := okp) (by
      rw [List.take_zero, List.nil_append, Nat.zero_add, he, ← hcl, List.drop_length, List.append_nil]
      exact hM W y) hokp
    rw [Int.toNat_natCast, Nat.add_zero] at hs
    have ih := R_segs (d := d) (e := e) (base := base) (g := g) (n := n) (cap := cap) (ok := ok) (okp := okp) enc he hM hokp z ys (i + 1) _ _ hs.1 (by omega)
    have e1 : (y :: ys).flatMap enc = enc y ++ ys.flatMap enc := rfl
    have e2 : i * d.sz + (enc y).length = (i + 1) * d.sz := by rw [he, Nat.succ_mul]
    rw [e1, setCells_app, e2]
    refine ⟨?_, grownBy_trans hs.2 ih.2⟩
    have e3 : (xs.set i y).take (i + 1) ++ ys ++ (xs.set i y).drop (i + 1 + ys.length) = xs.take i ++ (y :: ys) ++ xs.drop (i + (ys.length + 1)) := by
      rw [take_set_here _ _ _ (by omega), List.drop_set_of_lt (by omega), show i + 1 + ys.length = i + (ys.length + 1) by omega]
      simp
    rw [List.length_cons, ← e3]
    exact ih.1
def encScan (y : S31) : List Value := [.int .i8 y.f0, .int .i16 y.f1]
theorem scan_one (y : S31) : ∀ q ∈ encScan y, q.oneCell' = true := by
  intro q hq
  simp only [encScan, List.mem_cons, List.not_mem_nil, or_false] at hq
  rcases hq with rfl | rfl <;> rfl
theorem flat_len (ys : List S31) : (ys.flatMap encScan).length = ys.length * 2 := by
  induction ys with
  | nil => rfl
  | cons y r ih =>
    show (encScan y ++ r.flatMap encScan).length = _
    rw [List.length_append, ih, List.length_cons]
    show 2 + _ = _
    omega
theorem flat_get : ∀ (ys : List S31) (i j : Nat) (hi : i < ys.length) (hj : j < 2), (ys.flatMap encScan)[i * 2 + j]? = (encScan ys[i])[j]?
  | y :: r, 0, j, hi, hj => by
    show (encScan y ++ r.flatMap encScan)[0 * 2 + j]? = _
    rw [Nat.zero_mul, Nat.zero_add, List.getElem?_append_left (by show j < 2; exact hj)]
    rfl
  | y :: r, i + 1, j, hi, hj => by
    show (encScan y ++ r.flatMap encScan)[(i + 1) * 2 + j]? = _
    rw [List.getElem?_append_right (by show 2 ≤ _; omega), show (i + 1) * 2 + j - (encScan y).length = i * 2 + j by show _ - 2 = _; omega, flat_get r i j (by simpa using hi) hj]
    rfl
set_option maxHeartbeats 4000000 in
set_option maxRecDepth 100000 in
theorem delete_Scan (base : Nat) (v : Value) (l : List S31) (i : Nat) (j : Int) (w : World) (hbase : base ≤ w.heap.size) (hR : Kd.R k31 31 w base (fun _ => True) v l) (hi : i < l.length) (hj : j = (i : Int) + 1) (hl : l.length ≤ 1048576) :
    Calls Try.prog 57 #[v, .int .i64 (i : Int), .int .i64 j] w fun e w' => ∃ v' : Value, e = .returned v' ∧ Kd.R k31 31 w' base (fun _ => True) v' (l.eraseIdx i) ∧ Below base w w' := by
  obtain ⟨g, c, rfl, hgb, hgl, cells, hcells⟩ := Kd.R_form hR (by omega)
  obtain ⟨_, hlc, hC⟩ := Kd.R_reads' hR
  have HR := Aside0.mk hR
  have HC := Aside0.mk hC
  clear hR hC hcells
  obtain ⟨n, hn⟩ : ∃ n, l.length = n := ⟨_, rfl⟩
  have HN := Aside0.mk hn
  rw [hn] at hi hl hlc HR HC ⊢
  obtain ⟨jn, hjn⟩ : ∃ jn : Nat, jn = i + 1 := ⟨_, rfl⟩
  have hjz : j = (jn : Int) := by omega
  subst hjz
  have hij : i < jn := by omega
  have hjn1 : jn ≤ n := by omega
  have HJ := Aside0.mk hjn
  clear hjn hj hn
  have hne : ((i : Int) == (jn : Int)) = false := beq_false_of_ne (by omega)
  go_enter Try.func57, Try.ntmps57
  go_wp2
  have hdl : (l.drop jn).length = n - jn := by rw [List.length_drop, HN.out]
  have hll := HN.out
  obtain ⟨news, hnews⟩ : ∃ news, news = (l.drop jn).flatMap encScan := ⟨_, rfl⟩
  have hnl : news.length = (n - jn) * 2 := by rw [hnews, flat_len, hdl]
  have hn1 : ∀ u ∈ news, u.oneCell' = true := by
    intro u hu
    rw [hnews, List.mem_flatMap] at hu
    obtain ⟨y, _, hy⟩ := hu
    exact scan_one y u hy
  have hcell : ∀ q, q < n * 2 → (w.cell? ⟨g, q, none⟩).isSome = true ∧ w.frozen? ⟨g, q, none⟩ = false := fun q hq => R_cellAt HR.out z31 (by decide) q hq
  obtain ⟨ad, had⟩ : ∃ ad : Addr, ad = (if c = jn then ⟨g, 0, none⟩ else ⟨g, jn * 2, none⟩) := ⟨_, rfl⟩
  have hread : ∀ q u, news[q]? = some u → w.cell? (ad.add q) = some u := by
    intro q u hq
    have hql : q < news.length := (List.getElem?_eq_some_iff.1 hq).1
    have hcj : c ≠ jn := by omega
    rw [had, if_neg hcj]
    have hq2 : q / 2 < (l.drop jn).length := by omega
    have h1 := flat_get (l.drop jn) (q / 2) (q % 2) hq2 (Nat.mod_lt _ (by decide))
    rw [show q / 2 * 2 + q % 2 = q by omega, ← hnews, hq] at h1
    obtain ⟨cj, hcl, hM, hcc, hfr⟩ := Kd.R_elem HR.out z31 ((jn + q / 2 : Nat) : Int) (by omega) (by omega)
    obtain rfl := k31_openM hM
    have h2 : l.getD (jn + q / 2) z31 = (l.drop jn)[q / 2] := by
      rw [List.getD_eq_getElem?_getD, List.getElem_drop, List.getElem?_eq_getElem (by omega)]
      rfl
    rw [Int.toNat_natCast, h2] at hcc
    have h3 := hcc (q % 2) u h1.symm
    rw [show (jn + q / 2) * k31.sz + q % 2 = jn * 2 + q by show (jn + q / 2) * 2 + q % 2 = _; omega] at h3
    rw [Addr.add_lit]
    exact h3
  have hap : ∀ ty (V : World), V = w.drew → (Builtin.append_ #[45, 45] ty #[.slice (some ⟨g, 0, none⟩) i c, .slice (some ad) (n - jn) (c - jn)]).run Try.prog V = .ok (.slice (some ⟨g, 0, none⟩) (i + (n - jn)) c) (V.setCells g (i * 2) news) := by
    rintro ty V rfl
    obtain ⟨i0, hi0, hzz⟩ := Option.map_eq_some_iff.1 info31
    simp only [Prod.mk.injEq] at hzz
    have hsz := hzz.2.1
    have := run_append_room_cells (P := Try.prog) (w := w.drew) 45 ty 31 i0 Try.underlying45 hi0 g 0 i c ad (n - jn) (c - jn) news (by rw [hsz]; exact hnl) hread hn1 (by omega) (fun q hq => (hcell _ (by rw [hnl] at hq; rw [hsz]; omega)).1) (fun q hq => (hcell _ (by rw [hnl] at hq; rw [hsz]; omega)).2)
    rw [Nat.zero_add, hsz] at this
    exact this
  have hicn : i ≤ c := by omega
  have hic : (i : Int) ≤ (c : Int) := by omega
  have hjz : (jn : Int) ≤ (n : Int) := by omega
  have hsl : ∀ V, (Instr.slice 45 (.slice (some ⟨g, 0, none⟩) n c) (some (.int .i64 (jn : Int))) none none).run Try.prog V = .ok (.slice (some ad) (n - jn) (c - jn)) V := by
    intro V
    obtain ⟨i0, hi0, hzz⟩ := Option.map_eq_some_iff.1 info31
    simp only [Prod.mk.injEq] at hzz
    rw [cut_from 45 31 .i64 Try.underlying45 hi0 2 hzz.2.1 (some ⟨g, 0, none⟩) n c (jn : Int) (by omega) hjz, Int.toNat_natCast, had]
    by_cases hcj : c = jn
    · rw [if_pos hcj, if_pos hcj]
    · rw [if_neg hcj, if_neg hcj]
      show Result.ok (Value.slice (some (Addr.add ⟨g, 0, none⟩ (jn * 2))) (n - jn) (c - jn)) V = _
      rw [Addr.add_lit, Nat.zero_add]
  clear had hcell
  have HAP := Aside0.mk hap
  have HNW := Aside0.mk hnews
  have HSG := Aside0.mk (R_segs (d := k31) (ok := fun _ => True) (okp := fun _ => False) encScan (fun _ => rfl) (fun W x => k31_mkM _ _ (fun _ => False) x) (fun _ h => h.elim) z31 (l.drop jn) i w.drew l (Kd.R_mono (Kd.R_below HR.out (Below.refl _ _).drew) (fun _ _ => trivial)) (by omega))
  clear hap hnews hread hn1
  go_still_tail 6, (by kernel_rfl)
  refine Lib.wpList_append_run w.drew rfl (.tmp 22) (.tmp 25) 45 45 rfl _ _ rfl rfl _ _ (HAP.out _ _ rfl) ?_
  obtain ⟨w2, hw2⟩ : ∃ w2, w2 = w.drew.setCells g (i * 2) news := ⟨_, rfl⟩
  have HS2 : Aside0 (Kd.R k31 31 w2 base (fun _ => True) (.slice (some ⟨g, 0, none⟩) n c) (l.take i ++ l.drop jn ++ l.drop (i + (n - jn))) ∧ w.drew.grownBy w2 (some g)) := ⟨by
    rw [hw2, HNW.out]
    have := HSG.out
    rw [hdl] at this
    exact this⟩
  rw [← hw2]
  clear hw2 HSG HAP HNW hnl hsl
  have hmn : i + (n - jn) = n - 1 := by have := HJ.out; omega
  rw [hmn] at HS2 ⊢
  have hxl : (l.take i ++ l.drop jn).length = n - 1 := by rw [List.length_append, hdl, List.length_take, hll]; omega
  have hfin : Aside0 (l.eraseIdx i = l.take i ++ l.drop jn) := ⟨by rw [List.eraseIdx_eq_take_drop_succ, HJ.out]⟩
  have HR2 : Aside0 (Kd.R k31 31 w2 base (fun _ => True) (.slice (some ⟨g, 0, none⟩) (n - 1) c) (l.take i ++ l.drop jn)) := ⟨by
    have h1 := Kd.R_take HS2.out.1 (m := n - 1) (by rw [List.length_append, hxl]; omega)
    rw [List.take_append_of_le_length (by omega), List.take_of_length_le (by omega)] at h1
    exact h1⟩
  obtain ⟨zs, hzs⟩ : ∃ zs, (Builtin.zeroCells (Value.agg #[.int .i8 0, .int .i16 0]).cells 1).toList = zs := ⟨_, rfl⟩
  have hzl : zs.length = 1 * 2 := by rw [← hzs, zeroCells_length]; rfl
  have hz1 : ∀ v ∈ zs, v.oneCell' = true := by
    rw [← hzs]
    exact zeroCells_one _ (fun i hi => by match i, hi with | 0, _ => rfl | 1, _ => rfl) (by decide) _
  have hcell : ∀ q, q < zs.length → (w2.cell? ⟨g, (n - 1) * 2 + q, none⟩).isSome = true ∧ w2.frozen? ⟨g, (n - 1) * 2 + q, none⟩ = false := fun q hq => R_cellAt HS2.out.1 z31 (by decide) ((n - 1) * 2 + q) (by rw [show k31.sz = 2 from rfl]; omega)
  have hcl : ∀ ty, (Builtin.clear_ #[45] ty #[.slice (some ⟨g, (n - 1) * 2, none⟩) 1 (c - (n - 1))]).run Try.prog w2 = .ok (.tuple #[]) (w2.setCells g ((n - 1) * 2) zs) :=
    fun ty => run_clear_cells w2 _ 31 ty _ Try.underlying45 Try.zeroValue31 _ zs hzs hz1 g ((n - 1) * 2) _ (by omega) (fun q hq => (hcell q hq).1) (fun q hq => (hcell q hq).2)
  have HRT := Aside0.mk (R_beyond HR2.out rfl zs (o := (n - 1) * 2) (Nat.le_refl _) (by rw [hzl, show k31.sz = 2 from rfl]; omega))
  have HSS : Aside0 (w2.grownBy (w2.setCells g ((n - 1) * 2) zs) (some g)) := ⟨by
    obtain ⟨s1, s2, s3, s4⟩ := setCells_same g zs ((n - 1) * 2) w2
    exact ⟨s1, s2, s3, by rw [s4]; exact Nat.le_refl _, fun k _ hk => setCells_far zs _ k (fun he => hk (by rw [he]))⟩⟩
  have HBB : Aside0 (Below base w w2) := ⟨Below.grown (Below.refl _ _).drew HS2.out.2 hbase (fun b hb => by injection hb with hb; omega)⟩
  obtain ⟨p, hp⟩ : ∃ p, p = n - 1 := ⟨_, rfl⟩
  have hpn : p < n := by omega
  have hpc : p < c := by omega
  have hp1 : n - p = 1 := by omega
  simp only [← hp] at *
  clear hp hz1 hcell hzs HS2 HR2 hxl hmn
  go_wp2
  go_ret
  refine ⟨_, rfl, ?_, Below.grown HBB.out HSS.out (by have := HBB.out.size; omega) (fun b hb => by injection hb with hb; omega)⟩
  rw [hfin.out]
  exact HRT.out
end Go.Proofs.Yticfecncdpdanaa.Q
/- slices.Clone at i.Scan: a slice of its own that holds the same elements; nil stays nil. For slices of at most 1048576 elements. -/
set_option linter.unusedVariables false
set_option linter.unusedSimpArgs false
namespace Go.Proofs.Yticfecncdpdanaa.Q
open Go.RowKit Go.Proofs.YticfecncdpdanaaW.PrintWords Go.Proofs.YticfecncdpdanaaW.PrintLast Go.Proofs.YticfecncdpdanaaW.PrintMore
set_option maxHeartbeats 1000000 in
set_option maxRecDepth 100000 in
theorem clone_Scan (A : Option Addr) (c : Nat) (l : List S31) (w : World) (hr : Kd.C k31 w A l.length l) (hc : l.length ≤ c) (hl : l.length ≤ 1048576) :
    Calls Try.prog 47 #[.slice A l.length c] w fun e w' => ∃ v : Value, e = .returned v ∧ Kd.R k31 31 w' w.heap.size (fun _ => True) v l ∧ Below w.heap.size w w' := by
  have HR := Aside0.mk hr
  cases A with
  | none =>
    have hn : l = [] := by
      cases l with
      | nil => rfl
      | cons x r =>
        obtain ⟨a, ha, _⟩ := hr.2.2 (by simp)
        cases ha
    subst hn
    clear hr HR
    have hq := fun w => Lib.run_eql_slice_nil (P := Try.prog) w 45 31 none 0 c 0 0 Try.underlying45
    rw [List.length_nil]
    go_enter Try.func47, Try.ntmps47
    go_wp2
    go_ret
    exact ⟨_, rfl, Kd.R_nil _ _ _ _ _, Below.refl _ _⟩
  | some a =>
    clear hr
    have hq := fun w => Lib.run_eql_slice_nil (P := Try.prog) w 45 31 (some a) l.length c 0 0 Try.underlying45
    have HO : Aside0 (Kd.R k31 31 (w.alloc (.cells #[] 31)) w.heap.size (fun _ => True) (.slice (some ⟨w.heap.size, 0, none⟩) 0 0) ([] : List S31)) := ⟨R_empty k31 31 w w.heap.size _ _ rfl (Nat.le_refl _) trivial⟩
    go_enter Try.func47, Try.ntmps47
    go_wp2_with (at_builtin; refine Kd.R_append_rows k31 (w0 := w) w.heap.size rfl (.tmp 5) (.tmp 6) 45 31 (.agg #[.int .i8 0, .int .i16 0]) 4 rfl Try.underlying45 info31 rfl (by decide) (by omega) _ ([] : List S31) l _ _ _ (fun _ => True) (fun _ => False) rfl rfl HO.out ?aR (fun _ _ h => h) (fun _ h => h.elim) (fun _ _ => trivial) ?aB ?aS ?aL ?_; (case aR => exact Kd.C_alloc HR.out _); (case aB => exact (Below.refl _ _).alloc (Nat.le_refl _) _); (case aS => simp); (case aL => simp; omega); intro v1 w1 ho hb hg hat)
    have HV := Aside0.mk ho
    have HB := Aside0.mk hb
    clear ho hb hg hat HO
    go_wp2
    go_ret
    exact ⟨_, rfl, HV.out, HB.out⟩
end Go.Proofs.Yticfecncdpdanaa.Q
/- slices.insertionSortCmpFunc at i.Scan (a slice of one's own, a comparison that turns nothing), pdqsortCmpFunc and SortFunc at most 12 scans; the comparison of impl's SortScans. -/
set_option linter.unusedVariables false
set_option linter.unusedSimpArgs false
namespace Go.Proofs.Yticfecncdpdanaa.Q
open Go.Sort (grow)
open Go.RowKit Go.Proofs.YticfecncdpdanaaW.PrintWords Go.Proofs.YticfecncdpdanaaW.PrintLast Go.Proofs.YticfecncdpdanaaW.PrintMore
def swapS (xs : List S31) (j : Nat) : List S31 := (xs.set (j + 1) (xs.getD j z31)).set j (xs.getD (j + 1) z31)
/-- The inner round: the scan at place j moves ahead of those that are greater. -/
def innerS (cf : S31 → S31 → Int) : Nat → List S31 → List S31
  | 0, xs => xs
  | j + 1, xs => if cf (xs.getD (j + 1) z31) (xs.getD j z31) < 0 then innerS cf j (swapS xs j) else xs
/-- The rounds from place i on, n of them. -/
def outerS (cf : S31 → S31 → Int) : Nat → Nat → List S31 → List S31
  | 0, _, xs => xs
  | n + 1, i, xs => outerS cf n (i + 1) (innerS cf i xs)
theorem swapS_length (xs : List S31) (j : Nat) : (swapS xs j).length = xs.length := by unfold swapS; rw [List.length_set, List.length_set]
theorem innerS_length (cf : S31 → S31 → Int) : ∀ (j : Nat) (xs : List S31), (innerS cf j xs).length = xs.length
  | 0, xs => rfl
  | j + 1, xs => by
    rw [innerS]
    split
    · rw [innerS_length cf j, swapS_length]
    · rfl
/-- One scan of a row of one's own is written. -/
theorem R_put {e base g n cap : Nat} {W : World} {xs : List S31} (h : Kd.R k31 e W base (fun _ => True) (.slice (some ⟨g, 0, none⟩) n cap) xs) (i : Nat) (hi : i < n) (y : S31) :
    Kd.R k31 e ((W.setCell ⟨g, i * 2, none⟩ (.int .i8 y.f0)).setCell ⟨g, i * 2 + 1, none⟩ (.int .i16 y.f1)) base (fun _ => True) (.slice (some ⟨g, 0, none⟩) n cap) (xs.set i y) ∧ W.grownBy ((W.setCell ⟨g, i * 2, none⟩ (.int .i8 y.f0)).setCell ⟨g, i * 2 + 1, none⟩ (.int .i16 y.f1)) (some g) := by
  obtain ⟨c, hcl, _, hcc, _⟩ := Kd.R_elem h z31 (i : Int) (by omega) (by omega)
  have hs := Kd.R_seg h (i : Int) (by omega) (by omega) (c := c) (seg := encScan y) (j := 0) hcl hcc (show 0 + 2 ≤ 2 by omega) (x' := y) (okp := fun _ => False) (by
    rw [List.take_zero, List.nil_append, Nat.zero_add, show (encScan y).length = k31.sz from rfl, ← hcl, List.drop_length, List.append_nil]
    exact k31_mkM _ _ (fun _ => False) y) (fun _ h => h.elim)
  rw [Int.toNat_natCast, Nat.add_zero] at hs
  exact hs
/-- A comparison that turns nothing. -/
def CmpS (g : Nat) (cb : Array Value) (cf : S31 → S31 → Int) : Prop := ∀ (W : World) (x y : S31), Calls Try.prog g (#[.agg #[.int .i8 x.f0, .int .i16 x.f1], .agg #[.int .i8 y.f0, .int .i16 y.f1]] ++ cb) W fun e w' => e = .returned (.int .i64 (cf x y)) ∧ Below W.heap.size W w'
set_option maxHeartbeats 40000000 in
set_option maxRecDepth 1000000 in
theorem insSortS_is (cf : S31 → S31 → Int) (g : Nat) (cb : Array Value) (base blk cap : Nat) (l : List S31) (n : Nat) (w : World) (hn : l.length = n)
    (eg : ∀ args w, (callFunc g args).run Try.prog w = .ok (.enter g args) w) (hcmp : CmpS g cb cf) (hR : Kd.R k31 31 w base (fun _ => True) (.slice (some ⟨blk, 0, none⟩) n cap) l) (hbase : base ≤ w.heap.size) (hbb : base ≤ blk) (hbw : blk < w.heap.size) (hl : n ≤ 1048576) :
    Calls Try.prog 86 #[.slice (some ⟨blk, 0, none⟩) n cap, .int .i64 0, .int .i64 (n : Int), .func (.func g) #[] cb] w fun e w' =>
      e = .returned (.tuple #[]) ∧ Kd.R k31 31 w' base (fun _ => True) (.slice (some ⟨blk, 0, none⟩) n cap) (outerS cf (n - 1) 1 l) ∧ Below base w w' := by
  have HC := Aside0.mk hcmp
  have HR := Aside0.mk hR
  have HN := Aside0.mk hn
  have HB0 : Aside0 (Below base w w) := ⟨Below.refl _ _⟩
  clear hcmp hR hn
  go_enter Try.func86, Try.ntmps86
  go_wp2
  go_loopg [8] n (fun g1 vi wr => ∃ (i : Nat) (xs : List S31), vi = .int .i64 i ∧ 1 ≤ i ∧ (i ≤ n ∨ i = 1) ∧ n + 1 - i ≤ g1 + 1 ∧ xs.length = n ∧ Aside0 (Kd.R k31 31 wr base (fun _ => True) (.slice (some ⟨blk, 0, none⟩) n cap) xs) ∧ Aside0 (Below base w wr) ∧ Aside0 (outerS cf (n - i) i xs = outerS cf (n - 1) 1 l))
  case atStart => exact ⟨1, l, by go_num, by omega, by omega, by omega, HN.out, HR, HB0, ⟨rfl⟩⟩
  case round =>
    obtain ⟨i, xs, rfl, hi1, hib, hg1, hsk, HX, BW, HO⟩ := hrel
    by_cases hlt : i < n
    · have hltz : (i : Int) < (n : Int) := by omega
      obtain ⟨wo, hwo⟩ : ∃ wo : World, wo = wr := ⟨_, rfl⟩
      subst hwo
      have HO2 : Aside0 (outerS cf (n - (i + 1)) (i + 1) (innerS cf i xs) = outerS cf (n - 1) 1 l) := ⟨by
        rw [← HO.out, show n - i = (n - (i + 1)) + 1 by omega]
        rfl⟩
      clear HO
      go_wp2
      go_loopg [9] i (fun g2 vj wr2 => ∃ (j : Nat) (ys : List S31), vj = .int .i64 j ∧ j ≤ i ∧ j ≤ g2 ∧ ys.length = n ∧ Aside0 (Kd.R k31 31 wr2 base (fun _ => True) (.slice (some ⟨blk, 0, none⟩) n cap) ys) ∧ Aside0 (Below base w wr2) ∧ Aside0 (innerS cf j ys = innerS cf i xs))
      case atStart => exact ⟨i, xs, rfl, Nat.le_refl _, Nat.le_refl _, hsk, HX, BW, ⟨rfl⟩⟩
      case round =>
        obtain ⟨j, ys, rfl, hji, hg2, hsj, HY, BY, HI⟩ := hrel
        by_cases hj0 : 0 < j
        · obtain ⟨jp, rfl⟩ : ∃ jp, j = jp + 1 := ⟨j - 1, by omega⟩
          obtain ⟨cj, hcl, hM, hcc, hfr⟩ := Kd.R_elem HY.out z31 ((jp + 1 : Nat) : Int) (by omega) (by omega)
          obtain rfl := k31_openM hM
          obtain ⟨cp, hclp, hMp, hccp, hfrp⟩ := Kd.R_elem HY.out z31 (jp : Int) (by omega) (by omega)
          obtain rfl := k31_openM hMp
          rw [Int.toNat_natCast] at hcc hccp hfr hfrp
          have hun : innerS cf (jp + 1) ys = if cf (ys.getD (jp + 1) z31) (ys.getD jp z31) < 0 then innerS cf jp (swapS ys jp) else ys := rfl
          have hsw : swapS ys jp = (ys.set (jp + 1) (ys.getD jp z31)).set jp (ys.getD (jp + 1) z31) := rfl
          have x0 : wr.cell? ⟨blk, (jp + 1) * 2, none⟩ = some (.int .i8 (ys.getD (jp + 1) z31).f0) := hcc 0 _ rfl
          have x1 : wr.cell? ⟨blk, (jp + 1) * 2 + 1, none⟩ = some (.int .i16 (ys.getD (jp + 1) z31).f1) := hcc 1 _ rfl
          have y0 : wr.cell? ⟨blk, jp * 2, none⟩ = some (.int .i8 (ys.getD jp z31).f0) := hccp 0 _ rfl
          have y1 : wr.cell? ⟨blk, jp * 2 + 1, none⟩ = some (.int .i16 (ys.getD jp z31).f1) := hccp 1 _ rfl
          clear hcl hM hcc hfr hclp hMp hccp hfrp
          generalize ys.getD (jp + 1) z31 = x at *
          generalize ys.getD jp z31 = y at *
          obtain ⟨xa, xb⟩ := x
          obtain ⟨ya, yb⟩ := y
          simp only at x0 x1 y0 y1
          have hcall : ∀ d os, Calls Try.prog g (#[.agg #[.int .i8 xa, .int .i16 xb], .agg #[.int .i8 ya, .int .i16 yb]] ++ cb) (grow (redrawn wr d) os) fun e w'' => e = .returned (.int .i64 (cf ⟨xa, xb⟩ ⟨ya, yb⟩)) ∧ ∃ p : Regrown, w'' = grow (redrawn wr p.d) p.os := fun d os => Calls.regrown_of (HC.out _ ⟨xa, xb⟩ ⟨ya, yb⟩)
          obtain ⟨cv, hcv⟩ : ∃ cv, cf ⟨xa, xb⟩ ⟨ya, yb⟩ = cv := ⟨_, rfl⟩
          rw [hcv] at hun hcall
          clear hcv
          have HUN := Aside0.mk hun
          have HSW := Aside0.mk hsw
          have x0' := cell_regrown x0
          have x1' := cell_regrown x1
          have y0' := cell_regrown y0
          have y1' := cell_regrown y1
          have hwp : IntKind.i64.wrap ((jp : Int) + 1 - 1) = (jp : Int) := by rw [IntKind.wrap_i64]; omega
          have hwp2 : IntKind.i64.wrap (jp : Int) = (jp : Int) := by rw [IntKind.wrap_i64]; omega
          have jz : (jp : Int) + 1 < (n : Int) := by omega
          have jz1 : (jp : Int) < (n : Int) := by omega
          have hjaz' : (0 : Int) < (jp : Int) + 1 := by omega
          have e0 : ((jp : Int) + 1).toNat = jp + 1 := by omega
          have p0 : (0 : Int) ≤ (jp : Int) + 1 := by omega
          clear x0 x1 y0 y1 hun hsw
          --CUT1
          go_wp2_with fail
          refine wp_region_quiet_below (by kernel_rfl) (by kernel_rfl) ?_
          repeat (quiet_step ((go_at_fn g; with_reducible exact hcall _ _)))
          --CUT2
          refine wpQuiet_nil ?_
          intro _ hw'
          obtain ⟨⟨dq, osq⟩, hw''⟩ := hw'
          subst hw''
          have x0 := x0' dq osq
          have x1 := x1' dq osq
          have y0 := y0' dq osq
          have y1 := y1' dq osq
          have hb7 := below_regrown wr dq osq
          clear x0' x1' y0' y1' hcall
          generalize grow (redrawn wr dq) osq = w6 at *
          have HY6 : Aside0 (Kd.R k31 31 w6 base (fun _ => True) (.slice (some ⟨blk, 0, none⟩) n cap) ys) := ⟨Kd.R_mono (Kd.R_below HY.out hb7) (fun _ _ => trivial)⟩
          have BY6 : Aside0 (Below base w w6) := ⟨BY.out.trans (hb7.mono (Nat.le_trans hbase BY.out.size))⟩
          clear hb7 HY BY
          by_cases hlv : cv < 0
          · have hlvd : decide (cv < 0) = true := decide_eq_true hlv
            have HI2 : Aside0 (innerS cf jp (swapS ys jp) = innerS cf i xs) := ⟨by rw [← HI.out, HUN.out, if_pos hlv]⟩
            clear HI HUN
            have hcm := fun (i : Nat) (hi : i < n) => Kd.R_elem HY6.out z31 (i : Int) (by omega) (by omega)
            obtain ⟨_, _, _, _, fj⟩ := hcm (jp + 1) (by omega)
            obtain ⟨_, _, _, _, fp⟩ := hcm jp (by omega)
            rw [Int.toNat_natCast] at fj fp
            have f0 : w6.frozen? ⟨blk, (jp + 1) * 2, none⟩ = false := fj 0
            have f1 : w6.frozen? ⟨blk, (jp + 1) * 2 + 1, none⟩ = false := fj 1
            have f2 : w6.frozen? ⟨blk, jp * 2, none⟩ = false := fp 0
            have f3 : w6.frozen? ⟨blk, jp * 2 + 1, none⟩ = false := fp 1
            clear hcm fj fp
            --CUT3
            go_wp2_with fail
            obtain ⟨j1, hj1⟩ : ∃ j1, j1 = jp + 1 := ⟨_, rfl⟩
            rw [← hj1] at x0 x1 f0 f1 e0
            have J1 := Aside0.mk hj1
            clear hj1
            go_region
            all_goals go_wp2
            have P1 := R_put HY6.out (jp + 1) (by omega) ⟨ya, yb⟩
            have P2 := R_put P1.1 jp (by omega) ⟨xa, xb⟩
            rw [← HSW.out] at P2
            have hsz7 : w6.heap.size ≤ _ := P1.2.size
            have BW7 := Below.grown (Below.grown BY6.out P1.2 (Nat.le_trans hbase BY6.out.size) (fun b hb => by injection hb with hb; omega)) P2.2 (Nat.le_trans (Nat.le_trans hbase BY6.out.size) hsz7) (fun b hb => by injection hb with hb; omega)
            rw [← J1.out] at P2 BW7
            have HP2 : Aside0 (Kd.R k31 31 _ base (fun _ => True) (.slice (some ⟨blk, 0, none⟩) n cap) (swapS ys jp)) := ⟨Kd.R_mono (Kd.R_below P2.1 (Below.refl _ _).drew) (fun _ _ => trivial)⟩
            have HB7 := Aside0.mk BW7.drew
            clear P1 P2 BW7
            go_roundg jp
            case measure => omega
            case rel => exact ⟨jp, swapS ys jp, by first | rfl | go_num | (congr 1; omega), by omega, Nat.le_refl _, by rw [swapS_length]; exact hsj, HP2, HB7, HI2⟩
          · have hlvd : decide (cv < 0) = false := decide_eq_false hlv
            have HI2 : Aside0 (ys = innerS cf i xs) := ⟨by rw [← HI.out, HUN.out, if_neg hlv]⟩
            clear HI HUN
            go_wp2
            go_roundg (n - (i + 1))
            case measure => omega
            case rel => exact ⟨i + 1, ys, by go_num, by omega, by omega, by omega, hsj, HY6, BY6, ⟨by rw [HI2.out]; exact HO2.out⟩⟩
        · have hj : j = 0 := by omega
          subst hj
          have HI2 : Aside0 (ys = innerS cf i xs) := ⟨HI.out⟩
          clear HI
          --CUT4
          go_wp2_with fail
          go_quiet (fail)
          go_wp2
          go_roundg (n - (i + 1))
          case measure => omega
          case rel => exact ⟨i + 1, ys, by go_num, by omega, by omega, by omega, hsj, ⟨Kd.R_mono (Kd.R_below HY.out (pw_below_drewN (Below.refl _ _) _)) (fun _ _ => trivial)⟩, ⟨pw_below_drewN BY.out _⟩, ⟨by rw [HI2.out]; exact HO2.out⟩⟩
    · have hltz : ¬ (i : Int) < (n : Int) := by omega
      have HE : Aside0 (xs = outerS cf (n - 1) 1 l) := ⟨by rw [← HO.out, show n - i = 0 by omega]; rfl⟩
      clear HO
      go_wp2
      go_end0
      exact ⟨rfl, by rw [← HE.out]; exact HX.out, BW.out⟩
set_option maxHeartbeats 8000000 in
set_option maxRecDepth 100000 in
theorem pdqS_is (cf : S31 → S31 → Int) (g : Nat) (cb : Array Value) (base blk cap : Nat) (l : List S31) (n : Nat) (lim : Int) (w : World) (hn : l.length = n)
    (eg : ∀ args w, (callFunc g args).run Try.prog w = .ok (.enter g args) w) (hcmp : CmpS g cb cf) (hR : Kd.R k31 31 w base (fun _ => True) (.slice (some ⟨blk, 0, none⟩) n cap) l) (hbase : base ≤ w.heap.size) (hbb : base ≤ blk) (hbw : blk < w.heap.size) (hl : n ≤ 12) :
    Calls Try.prog 73 #[.slice (some ⟨blk, 0, none⟩) n cap, .int .i64 0, .int .i64 (n : Int), .int .i64 lim, .func (.func g) #[] cb] w fun e w' =>
      e = .returned (.tuple #[]) ∧ Kd.R k31 31 w' base (fun _ => True) (.slice (some ⟨blk, 0, none⟩) n cap) (outerS cf (n - 1) 1 l) ∧ Below base w w' := by
  have HC := Aside0.mk hcmp
  have HR := Aside0.mk hR
  have HN := Aside0.mk hn
  have h12 : (n : Int) ≤ 12 := by omega
  have e1 : IntKind.i64.wrap ((n : Int) - 0) = (n : Int) := by rw [IntKind.wrap_i64]; omega
  have e2 : IntKind.i64.wrap (n : Int) = (n : Int) := by rw [IntKind.wrap_i64]; omega
  clear hcmp hR hn
  go_enter Try.func73, Try.ntmps73
  go_wp2
  go_loopg [1, 2, 3, 10, 11] 0 (fun gg v1 v2 v3 v10 v11 wr => v1 = .int .i64 0 ∧ v2 = .int .i64 (n : Int) ∧ v3 = .int .i64 lim ∧ v10 = .bool true ∧ v11 = .bool true ∧ wr = w)
  case atStart => exact ⟨rfl, rfl, rfl, rfl, rfl, rfl⟩
  case round =>
    obtain ⟨rfl, rfl, rfl, rfl, rfl, rfl⟩ := hrel
    go_wp2_with fail
    refine (insSortS_is cf g cb base blk cap l n wr HN.out eg HC.out HR.out hbase hbb hbw (by omega)).mono ?_
    rintro e w2 ⟨rfl, hR2, hb2⟩
    have HR2 := Aside0.mk hR2
    have HB2 := Aside0.mk hb2
    clear hR2 hb2
    go_wp2
    refine bodyPost_ret (results_none rfl _ _ _) rfl ?_
    exact ⟨rfl, HR2.out, HB2.out⟩
set_option maxHeartbeats 8000000 in
set_option maxRecDepth 100000 in
theorem len64_is (n : Nat) (hn : n ≤ 12) (w : World) : Calls Try.prog 95 #[.int .u64 (n : Int)] w fun e w' => ∃ r : Int, e = .returned (.int .i64 r) ∧ w = w' := by
  have : n = 0 ∨ n = 1 ∨ n = 2 ∨ n = 3 ∨ n = 4 ∨ n = 5 ∨ n = 6 ∨ n = 7 ∨ n = 8 ∨ n = 9 ∨ n = 10 ∨ n = 11 ∨ n = 12 := by omega
  rcases this with rfl | rfl | rfl | rfl | rfl | rfl | rfl | rfl | rfl | rfl | rfl | rfl | rfl
  all_goals
    go_enter Try.func95, Try.ntmps95
    go_wp2
    go_ret
    exact ⟨_, rfl, rfl⟩
theorem len_is (n : Nat) (hn : n ≤ 12) (w : World) : Calls Try.prog 74 #[.int .u64 (n : Int)] w fun e w' => ∃ r : Int, e = .returned (.int .i64 r) ∧ w = w' := by
  have e1 : IntKind.u64.wrap (n : Int) = (n : Int) := by unfold IntKind.wrap; simp [IntKind.bits]; omega
  go_enter Try.func74, Try.ntmps74
  go_wp2_with fail
  refine (len64_is n hn _).mono ?_
  rintro e w' ⟨r, rfl, rfl⟩
  go_wp2
  go_ret
  exact ⟨r, rfl, rfl⟩
set_option maxHeartbeats 8000000 in
set_option maxRecDepth 100000 in
theorem sortFuncS_is (cf : S31 → S31 → Int) (g : Nat) (cb : Array Value) (base blk cap : Nat) (l : List S31) (n : Nat) (w : World) (hn : l.length = n)
    (eg : ∀ args w, (callFunc g args).run Try.prog w = .ok (.enter g args) w) (hcmp : CmpS g cb cf) (hR : Kd.R k31 31 w base (fun _ => True) (.slice (some ⟨blk, 0, none⟩) n cap) l) (hbase : base ≤ w.heap.size) (hbb : base ≤ blk) (hbw : blk < w.heap.size) (hl : n ≤ 12) :
    Calls Try.prog 48 #[.slice (some ⟨blk, 0, none⟩) n cap, .func (.func g) #[] cb] w fun e w' =>
      e = .returned (.tuple #[]) ∧ Kd.R k31 31 w' base (fun _ => True) (.slice (some ⟨blk, 0, none⟩) n cap) (outerS cf (n - 1) 1 l) ∧ Below base w w' := by
  have HC := Aside0.mk hcmp
  have HR := Aside0.mk hR
  have HN := Aside0.mk hn
  have e1 : IntKind.u64.wrap (n : Int) = (n : Int) := by unfold IntKind.wrap; simp [IntKind.bits]; omega
  clear hcmp hR hn
  go_enter Try.func48, Try.ntmps48
  go_wp2_with fail
  refine (len_is n hl _).mono ?_
  rintro e w' ⟨r, rfl, rfl⟩
  go_wp2_with fail
  refine (pdqS_is cf g cb base blk cap l n r w HN.out eg HC.out HR.out hbase hbb hbw hl).mono ?_
  rintro e w2 ⟨rfl, hR2, hb2⟩
  have HR2 := Aside0.mk hR2
  have HB2 := Aside0.mk hb2
  clear hR2 hb2
  go_wp2
  go_end0
  exact ⟨rfl, HR2.out, HB2.out⟩
set_option maxHeartbeats 8000000 in
set_option maxRecDepth 1000000 in
/-- No scans: nothing is sorted. -/
theorem sortFuncS_none (g : Nat) (cb : Array Value) (A : Option Addr) (cap : Nat) (w : World) :
    Calls Try.prog 48 #[.slice A 0 cap, .func (.func g) #[] cb] w fun e w' => e = .returned (.tuple #[]) ∧ w' = w := by
  have e1 : IntKind.u64.wrap ((0 : Nat) : Int) = ((0 : Nat) : Int) := by decide
  have K : ∀ r : Int, Calls Try.prog 73 #[.slice A 0 cap, .int .i64 0, .int .i64 ((0 : Nat) : Int), .int .i64 r, .func (.func g) #[] cb] w fun e w' => e = .returned (.tuple #[]) ∧ w' = w := by
    intro r
    have K2 : Calls Try.prog 86 #[.slice A 0 cap, .int .i64 0, .int .i64 0, .func (.func g) #[] cb] w fun e w' => e = .returned (.tuple #[]) ∧ w' = w := by
      go_enter Try.func86, Try.ntmps86
      go_wp2
      go_loopg [8] 0 (fun gg v8 wr => v8 = .int .i64 1 ∧ wr = w)
      case atStart => exact ⟨rfl, rfl⟩
      case round =>
        obtain ⟨rfl, rfl⟩ := hrel
        go_wp2
        go_end0
        exact ⟨rfl, rfl⟩
    go_enter Try.func73, Try.ntmps73
    go_wp2
    go_loopg [1, 2, 3, 10, 11] 0 (fun gg v1 v2 v3 v10 v11 wr => v1 = .int .i64 0 ∧ v2 = .int .i64 0 ∧ v3 = .int .i64 r ∧ v10 = .bool true ∧ v11 = .bool true ∧ wr = w)
    case atStart => exact ⟨rfl, rfl, rfl, rfl, rfl, rfl⟩
    case round =>
      obtain ⟨rfl, rfl, rfl, rfl, rfl, rfl⟩ := hrel
      go_wp2_with fail
      refine K2.mono ?_
      rintro e w2 ⟨rfl, rfl⟩
      go_wp2
      refine bodyPost_ret (results_none rfl _ _ _) rfl ?_
      exact ⟨rfl, rfl⟩
  go_enter Try.func48, Try.ntmps48
  go_wp2_with fail
  refine (len_is 0 (by omega) _).mono ?_
  rintro e w' ⟨r, rfl, rfl⟩
  go_wp2_with fail
  refine (K r).mono ?_
  rintro e w2 ⟨rfl, rfl⟩
  go_wp2
  go_end0
  exact ⟨rfl, rfl⟩
end Go.Proofs.Yticfecncdpdanaa.Q
