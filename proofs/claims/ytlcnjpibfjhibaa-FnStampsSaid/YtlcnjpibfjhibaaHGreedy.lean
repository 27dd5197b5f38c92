/- impl.greedy: the greatest stamps first, over slices.Backward (a range over a function: the lines of XHVals, turned to two loop variables). Under: at most 1000 values of 1 to 1000000, a postage of 0 to 1000000. -/
import Derived.RangeFuncBox
import Derived.RangeFuncNested
import Derived.RegionIn
import Derived.Shelf.RegionOpen
import Derived.RangeFuncLeaves
import Derived.Shelf.Abstract
import Derived.WalkKit
import Derived.OwnWalkIn
import Derived.TacticsInMore
import Derived.LoopNIn
import Derived.LoopIn
import Derived.Maps.AppendAt
import Derived.Test.YtlcnjpibfjhibaaHFewest
set_option linter.unusedVariables false
set_option linter.unusedSimpArgs false
namespace Go.Proofs.Ytlcnjpibfjhibaa.Q
open Go.RowKit Go.Shelf Go.Proofs.YtlcnjpibfjhibaaW.PrintWords Go.Proofs.YtlcnjpibfjhibaaW.PrintLast Go.Proofs.YtlcnjpibfjhibaaW.PrintMore

attribute [local go_sem] Oper.semAt_some

/-- The places, from the last one down. -/
def downs (n k : Nat) : List Nat := (List.range k).map fun j => n - 1 - j
theorem downs_succ (n k : Nat) : downs n (k + 1) = downs n k ++ [n - 1 - k] := by simp [downs, List.range_succ]
/-- A round: the counts, what is left. -/
def grS (vs : List Int) (s : List Int × Int) (i : Nat) : List Int × Int := (s.1.set i (Int.tdiv s.2 (vs.getD i 0)), Int.tmod s.2 (vs.getD i 0))
def grN (vs : List Int) (post : Int) (l : List Nat) : List Int × Int := l.foldl (grS vs) (List.replicate vs.length 0, post)
theorem grN_snoc (vs : List Int) (post : Int) (l : List Nat) (i : Nat) : grN vs post (l ++ [i]) = grS vs (grN vs post l) i := by unfold grN; rw [List.foldl_append]; rfl
theorem grN_len (vs : List Int) (post : Int) (l : List Nat) : (grN vs post l).1.length = vs.length := by
  unfold grN
  have : ∀ (l : List Nat) (s : List Int × Int), (l.foldl (grS vs) s).1.length = s.1.length := by
    intro l
    induction l with
    | nil => intro s; rfl
    | cons i l ih => intro s; rw [List.foldl_cons, ih]; simp [grS]
  rw [this]; simp
theorem emod_le {a b : Int} (h : 0 ≤ a) (hb : 1 ≤ b) : a % b ≤ a := by
  rcases Int.lt_or_le a b with h1 | h1
  · rw [Int.emod_eq_of_lt h h1]; exact Int.le_refl _
  · exact Int.le_trans (Int.le_of_lt (Int.emod_lt_of_pos _ (by omega))) h1
theorem grN_rng {vs : List Int} (hv : ∀ v ∈ vs, 1 ≤ v) {post : Int} (h0 : 0 ≤ post) (l : List Nat) (hl : ∀ i ∈ l, i < vs.length) : 0 ≤ (grN vs post l).2 ∧ (grN vs post l).2 ≤ post := by
  unfold grN
  have : ∀ (l : List Nat) (s : List Int × Int), (∀ i ∈ l, i < vs.length) → 0 ≤ s.2 → 0 ≤ (l.foldl (grS vs) s).2 ∧ (l.foldl (grS vs) s).2 ≤ s.2 := by
    intro l
    induction l with
    | nil => intro s _ h; exact ⟨h, Int.le_refl _⟩
    | cons i l ih =>
      intro s hi h
      rw [List.foldl_cons]
      have hil := hi i (by simp)
      have hm : 1 ≤ vs.getD i 0 := hv _ (by rw [List.getD_eq_getElem?_getD, List.getElem?_eq_getElem hil]; exact List.getElem_mem hil)
      have e : (grS vs s i).2 = s.2 % vs.getD i 0 := Int.tmod_eq_emod_of_nonneg h
      have h1 : 0 ≤ (grS vs s i).2 := by rw [e]; exact Int.emod_nonneg _ (by omega)
      have h2 : (grS vs s i).2 ≤ s.2 := by rw [e]; exact emod_le h hm
      have := ih (grS vs s i) (fun j hj => hi j (by simp [hj])) h1
      exact ⟨this.1, Int.le_trans this.2 h2⟩
  exact this l (List.replicate vs.length 0, post) hl h0
/-- What a round of slices.Backward keeps. -/
def KeepsB (n₀ Bs : Nat) (W W' : World) : Prop := Below n₀ W W' ∧ W'.heap[Bs]? = W.heap[Bs]?
theorem KeepsB.t {n₀ Bs : Nat} {A B C : World} (h : KeepsB n₀ Bs A B) (k : KeepsB n₀ Bs B C) : KeepsB n₀ Bs A C := ⟨h.1.trans k.1, k.2.trans h.2⟩
theorem KeepsB.b {n₀ Bs : Nat} {w : World} (hn : n₀ ≤ w.heap.size) (hs : Bs < w.heap.size) (W : World) (l : Nat) (o o' : Obj) (hl : w.heap.size ≤ l) (h : W.heap[l]? = some o) (h1 : o.isCells = false) (h2 : o.isWalk = false) : KeepsB n₀ Bs W (W.putObj l o') :=
  ⟨belowK_b hn W l o o' hl h h1 h2, (grownBy_putObj' W l o').block Bs (by have := (Array.getElem?_eq_some_iff.1 h).1; omega) (fun e => by injection e with e; omega)⟩
theorem KeepsB.cell {n₀ Bs : Nat} {W W' : World} (h : KeepsB n₀ Bs W W') {v : Value} (hc : W.cell? ⟨Bs, 0, none⟩ = some v) : W'.cell? ⟨Bs, 0, none⟩ = some v := (World.cell?_of_block (a := ⟨Bs, 0, none⟩) h.2).trans hc

set_option maxRecDepth 100000 in
set_option maxHeartbeats 2000000 in
theorem backward1_in (F : Fence) (n : Nat) (h7 : F.fn 81) (hro : F.round = none) (hn : 1 ≤ n) (l Bs n₀ b off cap : Nat) (zs : List Int) (hreach : zs.length ≤ 1048576) (hb : b < n₀) (J Jx : List (Fin zs.length) → World → Prop)
    (hY : ∀ pre (x : Fin zs.length) W, J pre W → pre.length < zs.length → YieldAt F (n - 1) Try.prog l #[.int .i64 (x.val : Int), .int .i64 (zs[x.val]?.getD 0)] W fun e W' =>
      (e = .returned (.bool true) ∧ J (pre ++ [x]) W' ∧ KeepsB n₀ Bs W W') ∨ (e = .returned (.bool false) ∧ Jx (pre ++ [x]) W'))
    (W : World) (hBs : W.cell? ⟨Bs, 0, none⟩ = some (.slice (some ⟨b, off, none⟩) zs.length cap)) (hc : ∀ j, j < zs.length → W.cell? ⟨b, off + j, none⟩ = some (.int .i64 (zs[j]?.getD 0))) (h0 : J [] W) :
    CallsIn F n Try.prog 81 #[.func (.yield l) #[] #[], .pointer (some ⟨Bs, 0, none⟩)] W fun e W' => (∃ v, e = .returned v) ∧
      ((∃ ys : List (Fin zs.length), ys.map (fun x => x.val) = downs zs.length zs.length ∧ J ys W') ∨ (∃ pre : List (Fin zs.length), True ∧ Jx pre W')) := by
  refine callsIn_of_wp Try.func81 rfl h7 ?_ hro
  simp only [Try.ntmps81, List.size_toArray, List.length_cons, List.length_nil, Nat.reduceAdd, Nat.reduceSub, Array.replicate_succ, Array.replicate_zero, List.push_toArray, List.append_toArray, List.nil_append, List.cons_append]
  have hBs' := hBs
  have e0 : IntKind.i64.wrap ((zs.length : Int) - 1) = (zs.length : Int) - 1 := by rw [IntKind.wrap_i64]; omega
  gi_wp2
  gi_loopw [3] (fun i wr => ∃ (k : Nat) (pre : List (Fin zs.length)), k ≤ zs.length ∧ i = .int .i64 ((zs.length : Int) - 1 - k) ∧ pre.map (fun x => x.val) = downs zs.length k ∧ J pre wr ∧ KeepsB n₀ Bs W wr)
    (fun i _ => (intOf i + 1).toNat)
  case atStart => exact ⟨0, [], Nat.zero_le _, by simp, rfl, h0, Below.refl _ _, rfl⟩
  case round =>
    obtain ⟨k, pre, hk, rfl, hpre, hJs, hnx⟩ := hrel
    have hbx := hnx.cell hBs
    by_cases hlt : k < zs.length
    · obtain ⟨q, hq⟩ : ∃ q : Nat, q = zs.length - 1 - k := ⟨_, rfl⟩
      have hqz : (zs.length : Int) - 1 - k = (q : Int) := by omega
      have hql : q < zs.length := by omega
      have hqlz : (q : Int) < (zs.length : Int) := by omega
      have HQ := Aside0.mk hq
      have hcx : wr.cell? ⟨b, off + q, none⟩ = some (.int .i64 (zs[q]?.getD 0)) := (hnx.1.cell (p := ⟨b, off + q, none⟩) hb).trans (hc q hql)
      have hpl : pre.length < zs.length := by
        have := congrArg List.length hpre
        simp [downs] at this
        omega
      have e1 : IntKind.i64.wrap ((q : Int) - 1) = (q : Int) - 1 := by rw [IntKind.wrap_i64]; omega
      rw [hqz]
      have HQZ := Aside0.mk hqz
      clear hq hqz
      obtain ⟨fn, tmps, assign, body, hy, hR⟩ := hY pre ⟨q, hql⟩ wr hJs hpl
      dsimp only at hy hR
      obtain ⟨x, hx⟩ : ∃ x, zs[q]?.getD 0 = x := ⟨_, rfl⟩
      rw [hx] at hy hcx
      clear hx
      have hq0 : (0 : Int) ≤ (q : Int) := by omega
      gi_wp2
      refine hR.mono ?_
      rintro e W3 (⟨rfl, hJ3, hk3⟩ | ⟨rfl, hJx3⟩)
      · gi_wp2
        go_roundw
        case rel => exact ⟨k + 1, pre ++ [⟨q, hql⟩], by omega, by simp; have := HQZ.out; omega, by rw [List.map_append, hpre, downs_succ, ← HQ.out]; rfl, hJ3, hnx.t hk3⟩
        case measure => simp [intOf]
      · gi_wp2
        refine bodyPost_ret (results_none rfl _ _ _) rfl ?_
        exact ⟨⟨_, rfl⟩, .inr ⟨_, trivial, hJx3⟩⟩
    · obtain rfl : k = zs.length := by omega
      have hneg : ¬ (0 : Int) ≤ (zs.length : Int) - 1 - (zs.length : Int) := by omega
      gi_wp2
      go_end0
      exact ⟨⟨_, rfl⟩, .inl ⟨_, hpre, hJs⟩⟩

set_option maxRecDepth 100000 in
set_option maxHeartbeats 1000000 in
theorem backward1_nil_in (F : Fence) (n : Nat) (h7 : F.fn 81) (hro : F.round = none) (l Bs : Nat) (A : Option Addr) (cap : Nat) {α : Type} (J : List α → World → Prop) (W : World) (hBs : W.cell? ⟨Bs, 0, none⟩ = some (.slice A 0 cap)) (h0 : J [] W) :
    CallsIn F n Try.prog 81 #[.func (.yield l) #[] #[], .pointer (some ⟨Bs, 0, none⟩)] W fun e W' => (∃ v, e = .returned v) ∧ J [] W' := by
  refine callsIn_of_wp Try.func81 rfl h7 ?_ hro
  simp only [Try.ntmps81, List.size_toArray, List.length_cons, List.length_nil, Nat.reduceAdd, Nat.reduceSub, Array.replicate_succ, Array.replicate_zero, List.push_toArray, List.append_toArray, List.nil_append, List.cons_append]
  gi_wp2
  gi_loopw [3] (fun i wr => i = .int .i64 (-1) ∧ J [] wr) (fun _ _ => 0)
  case atStart => exact ⟨rfl, h0⟩
  case round =>
    obtain ⟨rfl, hJs⟩ := hrel
    gi_wp2
    go_end0
    exact ⟨⟨_, rfl⟩, hJs⟩

set_option maxHeartbeats 1000000 in
theorem backward_in (F : Fence) (n : Nat) (h5 : F.fn 77) (hro : F.round = none) (a : Option Addr) (len cap : Nat) (w : World) :
    CallsIn F n Try.prog 77 #[.slice a len cap] w fun e w' => e = .returned (.func (.func 81) #[] #[.pointer (some ⟨w.heap.size, 0, none⟩)]) ∧ w' = w.alloc (.cells #[.slice a len cap] 24) := by
  refine callsIn_of_wp Try.func77 rfl h5 ?_ hro
  simp only [Try.ntmps77, List.size_toArray, List.length_cons, List.length_nil, Nat.reduceAdd, Nat.reduceSub, Array.replicate_succ, Array.replicate_zero, List.push_toArray, List.append_toArray, List.nil_append, List.cons_append]
  gi_wp2
  go_ret
  exact ⟨rfl, rfl⟩

/-- The slice holds the numbers, in a block below n₀; or it is nil and there are none. -/
def IntsB (n₀ : Nat) (W : World) (sv : Value) (zs : List Int) : Prop :=
  (∃ A cap, sv = .slice A 0 cap ∧ zs = []) ∨ ∃ b off cap, sv = .slice (some ⟨b, off, none⟩) zs.length cap ∧ b < n₀ ∧ ∀ j, j < zs.length → W.cell? ⟨b, off + j, none⟩ = some (.int .i64 (zs[j]?.getD 0))
theorem IntsB.below {n₀ : Nat} {A B : World} (h : Below n₀ A B) {sv : Value} {zs : List Int} : IntsB n₀ A sv zs → IntsB n₀ B sv zs
  | .inl e => .inl e
  | .inr ⟨b, off, cap, e, hb, hc⟩ => .inr ⟨b, off, cap, e, hb, fun j hj => (h.cell (p := ⟨b, off + j, none⟩) hb).trans (hc j hj)⟩
theorem backward_stops (F : Fence) (n : Nat) (h7 : F.fn 81) (hro : F.round = none) (hn : 1 ≤ n) (Bs n₀ : Nat) (sv : Value) (zs : List Int) (hreach : zs.length ≤ 1048576) (w : World) (hBs : Bs < w.heap.size) (hn₀ : n₀ ≤ w.heap.size)
    (hc : w.cell? ⟨Bs, 0, none⟩ = some sv) (hI : IntsB n₀ w sv zs) :
    SeqStopsK F n Try.prog 81 #[.pointer (some ⟨Bs, 0, none⟩)] (fun x : Fin zs.length => #[Value.int .i64 (x.val : Int), Value.int .i64 (zs[x.val]?.getD 0)]) (KeepsB n₀ Bs) (fun ys => ys.map (fun x => x.val) = downs zs.length zs.length) (fun _ => True) zs.length w := fun l J Jx W hW _ _ hY h0 => by
  have hc' := (hW.cell (p := ⟨Bs, 0, none⟩) hBs).trans hc
  rcases hI.below (hW.mono hn₀) with ⟨A, cap, rfl, rfl⟩ | ⟨b, off, cap, rfl, hb, hcs⟩
  · exact (backward1_nil_in F n h7 hro l Bs A cap J W hc' h0).mono fun e W' ⟨he, hj⟩ => ⟨he, .inl ⟨[], rfl, hj⟩⟩
  · exact backward1_in F n h7 hro hn l Bs n₀ b off cap zs hreach hb J Jx hY W hc' hcs h0
theorem new_atG (w : World) (o : Obj) (b : Nat) (hb : b = w.heap.size) : (w.alloc o).heap[b]? = some o := by subst hb; exact World.alloc_heap_new w o
theorem rowN_own {β : Type} (g : Nat) (f : β → List Int) : Own (fun s W => RowN W g (f s)) := fun s X Y row hs hg hrow =>
  ⟨(hg.block g hs.lt (fun e => by obtain ⟨o, ho, hc⟩ := hrow g e.symm; rw [hs.out] at ho; cases ho; cases hc)).trans hs.out⟩

set_option maxRecDepth 100000 in
set_option maxHeartbeats 4000000 in
theorem greedy_in (F : Fence) (n : Nat) (h57 : F.fn 57) (h77 : F.fn 77) (h81 : F.fn 81) (hro : F.round = none) (hn : 4 ≤ n) (A : Option Addr) (c : Nat) (vs : List Int) (hlen : vs.length ≤ 1000) (post : Int) (hp0 : 0 ≤ post) (hp1 : post ≤ 1000000) (w : World)
    (hv : ∀ v ∈ vs, 1 ≤ v ∧ v ≤ 1000000) (hI : IntsB w.heap.size w (.slice A vs.length c) vs) :
    CallsIn F n Try.prog 57 #[.slice A vs.length c, .int .i64 post] w fun e w' => ∃ v : Value, e = .returned (.tuple #[v, .bool ((grN vs post (downs vs.length vs.length)).2 == 0)]) ∧ Kd.R (Kd.int .i64) 2 w' w.heap.size (fun _ => True) v (grN vs post (downs vs.length vs.length)).1 ∧ Below w.heap.size w w' := by
  have h1 : 1 ≤ n := by omega
  have HI := Aside0.mk hI
  have HV := Aside0.mk hv
  clear hI hv
  have hmk := fun W => run_make_row' (P := Try.prog) 24 2 (.int .i64 0) 8 Try.underlying24 infoN64 rfl .i64 .i64 vs.length (by omega) (by omega) W
  rw [madeN vs.length] at hmk
  obtain ⟨mc, hmc⟩ : ∃ mc, ((List.replicate vs.length (0 : Int)).map (Value.int .i64)).toArray = mc := ⟨_, rfl⟩
  have HMC := Aside0.mk hmc
  rw [hmc] at hmk
  clear hmc
  refine callsIn_of_wp_marks Try.func57 rfl h57 ?_ hro
  simp only [Try.ntmps57, List.size_toArray, List.length_cons, List.length_nil, Nat.reduceAdd, Nat.reduceSub, Array.replicate_succ, Array.replicate_zero, List.push_toArray, List.append_toArray, List.nil_append, List.cons_append]
  gi_wp2_with (gi_at_call 77; refine (backward_in F (n - 1) h77 hro A vs.length c _).mono ?_; rintro e W ⟨rfl, rfl⟩)
  obtain ⟨bp, hbp⟩ : ∃ bp, w.heap.size = bp := ⟨_, rfl⟩
  have HBP := Aside0.mk hbp
  obtain ⟨W0, hW0⟩ : ∃ W0, ((((w.alloc (Obj.cells #[Value.int .i64 post] 2)).alloc (Obj.cells mc 2)).alloc (Obj.cells #[Value.slice (some ⟨w.heap.size + 1, 0, none⟩) vs.length vs.length] 24)).alloc (Obj.cells #[Value.slice A vs.length c] 24)) = W0 := ⟨_, rfl⟩
  have hsz : Aside0 (W0.heap.size = bp + 4) := ⟨by rw [← hW0, ← hbp]; simp⟩
  have hB0 : Aside0 (Below bp w W0) := ⟨by
    rw [← hW0, ← hbp]
    exact ((((Below.refl _ _).alloc (Nat.le_refl _) _).alloc (by simp) _).alloc (by simp; omega) _).alloc (by simp; omega) _⟩
  have hP0 : Aside0 (Boxed W0 bp 2 (.int .i64 post)) := ⟨by
    rw [← hW0, ← hbp]
    exact (((Boxed.new w _ _).alloc _).alloc _).alloc _⟩
  have hR0 : Aside0 (RowN W0 (bp + 1) (List.replicate vs.length 0)) := ⟨by
    rw [← hW0, ← hbp, ← HMC.out]
    refine RowN.alloc (RowN.alloc ⟨?_⟩ _) _
    exact new_atG _ _ _ (by simp)⟩
  have hO0 : Aside0 (Boxed W0 (bp + 2) 24 (.slice (some ⟨bp + 1, 0, none⟩) vs.length vs.length)) := ⟨by
    rw [← hW0, ← hbp]
    refine Boxed.alloc ?_ _
    exact new_atG _ _ _ (by simp)⟩
  have hS0 : Aside0 (W0.cell? ⟨bp + 3, 0, none⟩ = some (.slice A vs.length c)) := ⟨by
    rw [← hW0, ← hbp]
    exact Boxed.cell (t := 24) (new_atG _ _ _ (by simp))⟩
  rw [hbp] at hW0
  simp only [hbp]
  rw [hW0]
  simp only [Nat.add_assoc, Nat.reduceAdd]
  clear hW0 hbp hmk HMC
  have HI0 : Aside0 (IntsB bp W0 (.slice A vs.length c) vs) := ⟨(HBP.out ▸ HI.out).below hB0.out⟩
  have HV1 : Aside0 (∀ v ∈ vs, 1 ≤ v) := ⟨fun v h => (HV.out v h).1⟩
  clear HI
  refine wpIn_rangeFunc_ownG hro h1 (gf := 81) (lb := #[.pointer (some ⟨bp + 3, 0, none⟩)]) rfl h81 (enters_of Try.func81 (by kernel_rfl) rfl)
    (backward_stops F (n - 1) h81 hro (by omega) (bp + 3) bp (.slice A vs.length c) vs (by omega) W0 (by have := hsz.out; omega) (by have := hsz.out; omega) hS0.out HI0.out) KeepsB.t (KeepsB.b (by have := hsz.out; omega) (by have := hsz.out; omega)) (Below.refl _ _) (fun _ => rfl)
    (fun pre W => (RowN W (bp + 1) (grN vs post (pre.map fun x => x.val)).1 ∧ Boxed W bp 2 (.int .i64 (grN vs post (pre.map fun x => x.val)).2) ∧ Boxed W (bp + 2) 24 (.slice (some ⟨bp + 1, 0, none⟩) vs.length vs.length)) ∧ Below bp w W)
    (fun _ _ _ => False)
    (OwnFrom.and (OwnFrom.and (Own.from (rowN_own (bp + 1) _) _) (OwnFrom.and (Own.from (boxed_own bp 2 _) _) (Own.from (boxed_own (bp + 2) 24 (fun _ => .slice (some ⟨bp + 1, 0, none⟩) vs.length vs.length)) _))) (ownFrom_below (by have := HBP.out; omega) (by have := hsz.out; omega)))
    (fun _ _ _ _ _ hs _ _ => hs)
    ⟨⟨hR0.out, hP0.out, hO0.out⟩, hB0.out⟩
    (fun x => { tmps := #[.slice A vs.length c, .int .i64 post, undef, .pointer (some ⟨bp, 0, none⟩), .slice none 0 0, .bool false, .pointer (some ⟨bp + 2, 0, none⟩), .int .i64 (x.val : Int), .int .i64 (vs[x.val]?.getD 0), .slice A vs.length c, .int .i64 (vs.length : Int), .slice (some ⟨bp + 1, 0, none⟩) vs.length vs.length, .slice A vs.length c, .func (.func 81) #[] #[.pointer (some ⟨bp + 3, 0, none⟩)], .int .i64 (x.val : Int), .int .i64 (vs[x.val]?.getD 0), undef, undef, undef, undef, undef, undef, undef, undef, undef, undef, undef, undef], defers := [] }) ?assign ?body ?done ?stop
  case assign =>
    intro l x W K hK
    obtain ⟨v, hv⟩ : ∃ v, vs[x.val]?.getD 0 = v := ⟨_, rfl⟩
    simp only [hv] at hK ⊢
    clear hv
    gi_wp2
    exact hK
  case body =>
    rintro l pre x W ⟨⟨hr, hp, ho⟩, hB⟩ hlt
    obtain ⟨i, hi⟩ := x
    have hm : vs.getD i 0 ∈ vs := by rw [List.getD_eq_getElem?_getD, List.getElem?_eq_getElem hi]; exact List.getElem_mem hi
    have hvb := HV.out _ hm
    have hrg := grN_rng HV1.out hp0 (pre.map fun x => x.val) (fun j hj => by obtain ⟨y, _, rfl⟩ := List.mem_map.1 hj; exact y.isLt)
    have hst := grN_snoc vs post (pre.map fun x => x.val) i
    have hgl := grN_len vs post (pre.map fun x => x.val)
    obtain ⟨st, hst2⟩ : ∃ st, grN vs post (pre.map fun x => x.val) = st := ⟨_, rfl⟩
    rw [hst2] at hr hp hrg hst hgl
    have HX : Aside0 (grN vs post ((pre ++ [(⟨i, hi⟩ : Fin vs.length)]).map fun x => x.val) = grS vs st i) := ⟨by rw [List.map_append]; exact hst⟩
    clear hst hst2
    obtain ⟨row, p⟩ := st
    obtain ⟨v, hv⟩ : ∃ v, vs.getD i 0 = v := ⟨_, rfl⟩
    have hv' : vs[i]?.getD 0 = v := by rw [← List.getD_eq_getElem?_getD]; exact hv
    have HX2 : Aside0 (grS vs (row, p) i = (row.set i (Int.tdiv p v), Int.tmod p v)) := ⟨by unfold grS; rw [hv]⟩
    rw [hv] at hvb hm
    simp only [hv']
    clear hv hv' hm
    simp only at hr hp hrg hgl
    have hro2 := ho.cell
    have hpc := hp.cell
    have hpf := hp.frozen
    have hrc := hr.cell i (by rw [hgl]; exact hi)
    have hrf := hr.frozen i
    have hiz : (i : Int) < (vs.length : Int) := by omega
    have hv0 : ¬ v = 0 := by omega
    have e1 : IntKind.i64.wrap (Int.tdiv p v) = Int.tdiv p v := by
      rw [IntKind.wrap_i64, Int.tdiv_eq_ediv_of_nonneg hrg.1]
      have h1 : 0 ≤ p / v := Int.ediv_nonneg hrg.1 (by omega)
      have h2 : p / v ≤ p := Int.ediv_le_self _ hrg.1
      omega
    have e2 : IntKind.i64.wrap (Int.tmod p v) = Int.tmod p v := by
      rw [IntKind.wrap_i64, Int.tmod_eq_emod_of_nonneg hrg.1]
      have h1 : 0 ≤ p % v := Int.emod_nonneg _ (by omega)
      have h2 : p % v < v := Int.emod_lt_of_pos _ (by omega)
      omega
    have e3 : Int.tmod p v = p % v := Int.tmod_eq_emod_of_nonneg hrg.1
    have HF : Aside0 (KeepsFrom W0.heap.size W (((W.setCell ⟨bp + 1, i, none⟩ (.int .i64 (Int.tdiv p v))).setCell ⟨bp, 0, none⟩ (.int .i64 (p % v))).drew) ∧ KeepsB bp (bp + 3) W (((W.setCell ⟨bp + 1, i, none⟩ (.int .i64 (Int.tdiv p v))).setCell ⟨bp, 0, none⟩ (.int .i64 (p % v))).drew) ∧
        (RowN (((W.setCell ⟨bp + 1, i, none⟩ (.int .i64 (Int.tdiv p v))).setCell ⟨bp, 0, none⟩ (.int .i64 (p % v))).drew) (bp + 1) (grN vs post ((pre ++ [(⟨i, hi⟩ : Fin vs.length)]).map fun x => x.val)).1 ∧
          Boxed (((W.setCell ⟨bp + 1, i, none⟩ (.int .i64 (Int.tdiv p v))).setCell ⟨bp, 0, none⟩ (.int .i64 (p % v))).drew) bp 2 (.int .i64 (grN vs post ((pre ++ [(⟨i, hi⟩ : Fin vs.length)]).map fun x => x.val)).2) ∧
          Boxed (((W.setCell ⟨bp + 1, i, none⟩ (.int .i64 (Int.tdiv p v))).setCell ⟨bp, 0, none⟩ (.int .i64 (p % v))).drew) (bp + 2) 24 (.slice (some ⟨bp + 1, 0, none⟩) vs.length vs.length)) ∧
        Below bp w (((W.setCell ⟨bp + 1, i, none⟩ (.int .i64 (Int.tdiv p v))).setCell ⟨bp, 0, none⟩ (.int .i64 (p % v))).drew)) := ⟨by
      have hBW : Below bp W (((W.setCell ⟨bp + 1, i, none⟩ (.int .i64 (Int.tdiv p v))).setCell ⟨bp, 0, none⟩ (.int .i64 (p % v))).drew) := (((Below.refl bp W).setCell (p := ⟨bp + 1, i, none⟩) (Nat.le_succ _) _).setCell (p := ⟨bp, 0, none⟩) (Nat.le_refl _) _).drew
      have hfar : ∀ k, k ≠ bp + 1 → k ≠ bp → (((W.setCell ⟨bp + 1, i, none⟩ (.int .i64 (Int.tdiv p v))).setCell ⟨bp, 0, none⟩ (.int .i64 (p % v))).drew).heap[k]? = W.heap[k]? := fun k h1 h2 =>
        (Below.heap_setCell (W.setCell ⟨bp + 1, i, none⟩ (.int .i64 (Int.tdiv p v))) ⟨bp, 0, none⟩ (.int .i64 (p % v)) k h2).trans (Below.heap_setCell W ⟨bp + 1, i, none⟩ (.int .i64 (Int.tdiv p v)) k h1)
      refine ⟨(((KeepsOthers.setCell _ _ _).trans (KeepsOthers.setCell _ _ _)).trans (KeepsOthers.drew _)).from _, ⟨hBW, hfar (bp + 3) (by omega) (by omega)⟩, ?_, hB.trans hBW⟩
      rw [HX.out, HX2.out, e3]
      refine ⟨((hr.set i _).far bp 0 _ (by omega)).drew, ?_, (hfar (bp + 2) (by omega) (by omega)).trans ho⟩
      exact Boxed.set (t := 2) (.int .i64 (p % v)) ((Below.heap_setCell W ⟨bp + 1, i, none⟩ (.int .i64 (Int.tdiv p v)) bp (by simp)).trans hp)⟩
    have hmx : Try.prog.follows .mixedOrders = true := by kernel_rfl
    gi_wp2
    gi_region_o
    all_goals gi_wp2
    all_goals exact HF.out
  case done =>
    rintro D ys W hD hys ⟨⟨hr, hp, ho⟩, hB⟩ hK
    simp only [hys] at hr hp
    obtain ⟨res, hres⟩ : ∃ res, grN vs post (downs vs.length vs.length) = res := ⟨_, rfl⟩
    rw [hres] at hr hp
    have hlr : res.1.length = vs.length := by rw [← hres]; exact grN_len _ _ _
    have HZ : Aside0 (∃ v : Value, Ending.returned (Value.tuple #[.slice (some ⟨bp + 1, 0, none⟩) vs.length vs.length, .bool (res.2 == 0)]) = .returned (.tuple #[v, .bool ((grN vs post (downs vs.length vs.length)).2 == 0)]) ∧ Kd.R (Kd.int .i64) 2 (W.drew.putObj D (.deferred none)) w.heap.size (fun _ => True) v (grN vs post (downs vs.length vs.length)).1 ∧ Below w.heap.size w (W.drew.putObj D (.deferred none))) := ⟨by
      rw [hres, HBP.out]
      have hd : (W.drew).heap[D]? = some (.deferred (some [])) := hK
      have hne : bp + 1 ≠ D := fun e => by
        have h1 : W.heap[D]? = _ := hK
        rw [← e, hr.out] at h1
        cases h1
      refine ⟨_, rfl, ?_, ?_⟩
      · rw [← hlr]
        exact Kd.R_of_own (own_rowN (m := res.1.length) ⟨((grownBy_putObj' W.drew D (.deferred none)).block (bp + 1) hr.lt (fun e => hne (by injection e))).trans hr.out⟩ rfl (Nat.le_succ _) (by omega)) (fun _ _ => trivial)
      · exact hB.drew.trans (belowK_b (w := w) (by have := HBP.out; omega) W.drew D _ _ (by have := HBP.out; have := hsz.out; omega) hd rfl rfl)⟩
    have hro2 := ho.cell
    have hpc := hp.cell
    have hmx : Try.prog.follows .mixedOrders = true := by kernel_rfl
    gi_wp2
    gi_region_o
    all_goals gi_wp2
    all_goals (refine ⟨by simp, .inl ⟨_, _, rfl, run_takeDeferred (show W.drew.heap[D]? = _ from hK), ?_⟩⟩)
    all_goals (refine ⟨_, results_tmp2 (t := 4) (u := 5) rfl _ _ _, ?_⟩; exact HZ.out)
  case stop =>
    rintro D c pre W _ _ h _
    exact h.elim
theorem intsB_of {A : Option Addr} {c : Nat} {vs : List Int} {w : World} (hr : Kd.C (Kd.int .i64) w A vs.length vs) (hc : vs.length ≤ c) : IntsB w.heap.size w (.slice A vs.length c) vs := by
  by_cases h0 : vs.length = 0
  · obtain rfl : vs = [] := List.eq_nil_of_length_eq_zero h0
    exact .inl ⟨A, c, rfl, rfl⟩
  · obtain ⟨ad, e, hx⟩ := at_int64 hr 0 (by omega)
    subst e
    have hb := block_lt_of_cell hx
    rw [show (ad.add 0).block = ad.block by unfold Addr.add; split <;> rfl] at hb
    have hs : ad.spot = none := by
      have h : w.cell? ad = some (.int .i64 (vs.getD 0 0)) := hx
      unfold World.cell? at h
      cases hsp : ad.spot with
      | none => rfl
      | some q => rw [hsp] at h; simp at h; split at h <;> simp at h
    obtain ⟨b, off, sp⟩ := ad
    simp only at hs
    subst hs
    refine .inr ⟨b, off, c, rfl, hb, fun j hj => ?_⟩
    obtain ⟨ad2, e2, hx2⟩ := at_int64 hr j hj
    injection e2 with e2
    subst e2
    rw [List.getD_eq_getElem?_getD] at hx2
    rw [← hx2]
    congr 1
    unfold Addr.add
    split
    · rename_i h; rw [h]; rfl
    · rfl
def impl_greedy.f (l0 : List Int) (a1 : Int) : Option (List Int × Bool) := if (l0.length ≤ 1000 ∧ 0 ≤ a1 ∧ a1 ≤ 1000000) ∧ l0.all (fun v => decide (1 ≤ v ∧ v ≤ 1000000)) = true then some ((grN l0 a1 (downs l0.length l0.length)).1, (grN l0 a1 (downs l0.length l0.length)).2 == 0) else none
theorem impl_greedy.calls (A0 : Option Addr) (c0 : Nat) (l0 : List Int) (a1 : Int) (r1 : List Int) (r2 : Bool) (w : World) (hr0 : Kd.C (Kd.int .i64) w A0 l0.length l0) (hc0 : l0.length ≤ c0) (h : impl_greedy.f l0 a1 = some (r1, r2)) :
    Calls Try.prog 57 #[.slice A0 l0.length c0, .int .i64 a1] w fun e w' => ∃ v0_ : Value, e = .returned (.tuple #[v0_, .bool r2]) ∧ Kd.R (Kd.int .i64) 2 w' w.heap.size (fun _ => True) v0_ r1 ∧ Below w.heap.size w w' := by
  unfold impl_greedy.f at h
  split at h
  · rename_i hc
    obtain ⟨⟨h1, h2, h3⟩, h4⟩ := hc
    injection h with h
    injection h with e1 e2
    subst e1 e2
    exact callsIn_wide.1 (greedy_in Fence.wide 6 trivial trivial trivial rfl (by omega) A0 c0 l0 h1 a1 h2 h3 w (fun v hv => of_decide_eq_true (List.all_eq_true.1 h4 v hv)) (intsB_of hr0 hc0))
  · cases h
end Go.Proofs.Ytlcnjpibfjhibaa.Q
