/- impl.scanCode: the code of a net and scans. -/
import Derived.Test.YtgchiepnodoohaaHAll2
import Derived.Test.YtgchiepnodoohaaHLanes
import Derived.Deep.RegionHeldLaw
import Derived.Deep.AppendLies
set_option linter.unusedVariables false
set_option linter.unusedSimpArgs false
namespace Go.Proofs.Ytgchiepnodoohaa.Q
open Go.RowKit Go.Proofs.YtgchiepnodoohaaW.PrintWords Go.Proofs.YtgchiepnodoohaaW.PrintLast Go.Proofs.YtgchiepnodoohaaW.PrintMore
/-- Two slices of whole numbers that are owned, apart from each other. -/
structure Two (k : IntKind) (e : TypeId) (base : Nat) (w0 w : World) (v v' : Value) (xs ys : List Int) : Prop where
  l : w.ownsRow base e 1 v xs.length (nums k xs)
  r : w.ownsRow base e 1 v' ys.length (nums k ys)
  ne : ∀ j, v.ownBlock = some j → v'.ownBlock ≠ some j
  below : Below base w0 w
  size : base ≤ w.heap.size
variable {k : IntKind} {e : TypeId} {base : Nat} {w0 w : World} {v v' : Value} {xs ys : List Int}
theorem Two.alloc (h : Two k e base w0 w v v' xs ys) (o : Obj) : Two k e base w0 (w.alloc o) v v' xs ys := ⟨h.l.alloc o, h.r.alloc o, h.ne, h.below.alloc h.size o, by have := h.size; simp; omega⟩
theorem Two.drew (h : Two k e base w0 w v v' xs ys) : Two k e base w0 w.drew v v' xs ys := ⟨h.l.drew, h.r.drew, h.ne, h.below.drew, h.size⟩
section
variable {ops : Array Oper} {o : Oper} {a : Act} {Q : Exit → Act → World → Prop} {K : Act → World → Prop} {E : Prop}
theorem nums_len (k : IntKind) (xs : List Int) : (nums k xs).length = xs.length := by simp [nums]
theorem nums_snoc (k : IntKind) (xs : List Int) (y : Int) : nums k xs ++ [Value.int k y] = nums k (xs ++ [y]) := by simp [nums]
theorem step_one (hgd : o.guard = none) (s x : Operand) (t : TypeId) (bytes : Nat)
    (ho : o.op = .call { callee := .builtin .append, args := #[s, x], argTypes := #[t, t] })
    (ht : Try.prog.underlying t = some (.slice e)) (hinfo : (Try.prog.info? e).map (fun i => (i.zero, i.size, i.bytes)) = some (some (.int k 0), 1, bytes)) (hb0 : 0 < bytes)
    (hs : a.eval s = v) (g : Nat) (y : Int) (hx : a.eval x = .slice (some ⟨g, 0, none⟩) 1 1) (hg : w.heap[g]? = some (.cells #[.int k y] e (0, 0)))
    (HO : w.ownsRow base e 1 v xs.length (nums k xs)) (HB : Below base w0 w) (hbase : base ≤ w.heap.size) (hl : (xs.length + 1) * bytes ≤ 140737488355328)
    (h : ∀ v1 w1, w1.ownsRow base e 1 v1 (xs ++ [y]).length (nums k (xs ++ [y])) → Below base w0 w1 → base ≤ w1.heap.size → w.grownBy w1 v.ownBlock → (v1.ownBlock = v.ownBlock ∨ v1.ownBlock = some w.heap.size) → K (a.put o.dst v1) w1) :
    if Region.wanted o (yielded ops a.tmps) = true then Oper.wp Try.prog o a w K Q else E := by
  obtain ⟨i0, hi, hzz⟩ := Option.map_eq_some_iff.1 hinfo
  simp only [Prod.mk.injEq] at hzz
  obtain ⟨hz0, hz1, hz2⟩ := hzz
  have hlen : xs.length + 1 ≤ 140737488355328 := Nat.le_trans (Nat.le_mul_of_pos_right _ hb0) hl
  refine step_append_lies w hgd s x t ho base e i0 (.int k 0) 1 bytes ht hi hz0 hz1 hz2 rfl (by omega) v xs.length (nums k xs) hs HO ⟨g, 0, none⟩ 1 1 [.int k y] hx rfl
    (World.news_of_block (cs := #[.int k y]) (t := e) (fr := (0, 0)) hg) (by simp [Value.oneCell']) (by omega) (by simp only [maxLen]; omega) hl hbase _ rfl ?_
  intro g2 cap w1 hown hgr hat hlt
  refine h _ w1 ?_ (HB.grown hgr hbase (own_base HO)) (Nat.le_trans hbase hgr.size) hgr ?_
  · rw [nums_snoc] at hown
    simpa using hown
  · rcases hat with hat | rfl
    · exact .inl hat.symm
    · exact .inr rfl
theorem step_left (HT : Two k e base w0 w v v' xs ys) (hgd : o.guard = none) (s x : Operand) (t : TypeId) (bytes : Nat)
    (ho : o.op = .call { callee := .builtin .append, args := #[s, x], argTypes := #[t, t] })
    (ht : Try.prog.underlying t = some (.slice e)) (hinfo : (Try.prog.info? e).map (fun i => (i.zero, i.size, i.bytes)) = some (some (.int k 0), 1, bytes)) (hb0 : 0 < bytes)
    (hs : a.eval s = v) (g : Nat) (y : Int) (hx : a.eval x = .slice (some ⟨g, 0, none⟩) 1 1) (hg : w.heap[g]? = some (.cells #[.int k y] e (0, 0))) (hl : (xs.length + 1) * bytes ≤ 140737488355328)
    (h : ∀ v1 w1, Two k e base w0 w1 v1 v' (xs ++ [y]) ys → w.grownBy w1 v.ownBlock → K (a.put o.dst v1) w1) :
    if Region.wanted o (yielded ops a.tmps) = true then Oper.wp Try.prog o a w K Q else E := by
  refine step_one (w0 := w0) hgd s x t bytes ho ht hinfo hb0 hs g y hx hg HT.l HT.below HT.size hl ?_
  intro v1 w1 hown hb hsz hgr hat
  refine h v1 w1 ⟨hown, HT.r.kept hgr ?_, ?_, hb, hsz⟩ hgr
  · cases hv : v.ownBlock with
    | none => cases v'.ownBlock <;> simp
    | some j => exact .inr (HT.ne j hv)
  · intro j hj
    rcases hat with hat | hat
    · exact HT.ne j (by rw [← hat, hj])
    · intro h2
      have := (HT.r.lt j h2).2
      rw [hj] at hat
      injection hat with hat
      omega
theorem step_right (HT : Two k e base w0 w v v' xs ys) (hgd : o.guard = none) (s x : Operand) (t : TypeId) (bytes : Nat)
    (ho : o.op = .call { callee := .builtin .append, args := #[s, x], argTypes := #[t, t] })
    (ht : Try.prog.underlying t = some (.slice e)) (hinfo : (Try.prog.info? e).map (fun i => (i.zero, i.size, i.bytes)) = some (some (.int k 0), 1, bytes)) (hb0 : 0 < bytes)
    (hs : a.eval s = v') (g : Nat) (y : Int) (hx : a.eval x = .slice (some ⟨g, 0, none⟩) 1 1) (hg : w.heap[g]? = some (.cells #[.int k y] e (0, 0))) (hl : (ys.length + 1) * bytes ≤ 140737488355328)
    (h : ∀ v1 w1, Two k e base w0 w1 v v1 xs (ys ++ [y]) → w.grownBy w1 v'.ownBlock → K (a.put o.dst v1) w1) :
    if Region.wanted o (yielded ops a.tmps) = true then Oper.wp Try.prog o a w K Q else E := by
  refine step_one (w0 := w0) hgd s x t bytes ho ht hinfo hb0 hs g y hx hg HT.r HT.below HT.size hl ?_
  intro v1 w1 hown hb hsz hgr hat
  refine h v1 w1 ⟨HT.l.kept hgr ?_, hown, ?_, hb, hsz⟩ hgr
  · cases hv : v.ownBlock with
    | none => simp
    | some j => exact .inr fun h2 => HT.ne j hv h2.symm
  · intro j hj h2
    rcases hat with hat | hat
    · exact HT.ne j hj (by rw [← hat, h2])
    · have := (HT.l.lt j hj).2
      rw [h2] at hat
      injection hat with hat
      omega
end
/-- A block holds just these cells. -/
structure Has (w : World) (g : Nat) (c : Array Value) (e : TypeId) : Prop where
  out : w.heap[g]? = some (.cells c e (0, 0))
theorem Has.new (w : World) (g : Nat) (hg : g = w.heap.size) (c : Array Value) (e : TypeId) : Has (w.alloc (.cells c e)) g c e := ⟨row_at _ _ _ _ hg⟩
theorem Has.alloc {w : World} {g : Nat} {c : Array Value} {e : TypeId} (h : Has w g c e) (o : Obj) : Has (w.alloc o) g c e := ⟨(row_past _ _ _ (Array.getElem?_eq_some_iff.1 h.out).1).trans h.out⟩
theorem Has.drew {w : World} {g : Nat} {c : Array Value} {e : TypeId} (h : Has w g c e) : Has w.drew g c e := ⟨h.out⟩
theorem Has.grown {w w1 : World} {g : Nat} {c : Array Value} {e : TypeId} {row : Option Nat} (hg : w.grownBy w1 row) (h : Has w g c e) (hne : some g ≠ row) : Has w1 g c e := ⟨(hg.block g (Array.getElem?_eq_some_iff.1 h.out).1 hne).trans h.out⟩
def okScan (x : S47) : Bool := decide (-128 ≤ x.f0) && (decide (x.f0 ≤ 127) && (decide (-32768 ≤ x.f1) && decide (x.f1 ≤ 32767)))
theorem okScan_iff {x : S47} : okScan x = true ↔ -128 ≤ x.f0 ∧ x.f0 ≤ 127 ∧ -32768 ≤ x.f1 ∧ x.f1 ≤ 32767 := by
  unfold okScan
  simp only [Bool.and_eq_true, decide_eq_true_eq]
def scansIn (s : Int) (ss : List S47) : Bool := allIn (ss.map (·.f0)) 0 (s - 1) && allIn (ss.map (·.f1)) 0 300
set_option maxHeartbeats 4000000 in
set_option maxRecDepth 100000 in
theorem scanCode_is (s t : Int) (A : Option Addr) (c : Nat) (l : List S82) (A1 : Option Addr) (c1 : Nat) (ss : List S47) (w : World) (hr : Kd.C k82 w A l.length l) (hc : l.length ≤ c) (hok : okNet s t l = true)
    (hr1 : Kd.C k47 w A1 ss.length ss) (hc1 : ss.length ≤ c1) (hl1 : ss.length ≤ 1048576) (hsc : ∀ x ∈ ss, okScan x = true) :
    Calls Try.prog 69 #[.agg #[.int .i8 s, .int .i16 t, .slice A l.length c], .slice A1 ss.length c1] w fun e w' =>
      e = .returned (.int .i64 (codeB (netB s t l) (scansIn s ss))) ∧ Below w.heap.size w w' := by
  have HR := Aside0.mk hr
  have HR1 := Aside0.mk hr1
  have OK := Aside0.mk hok
  have HSC := Aside0.mk hsc
  clear hr hr1 hok hsc
  go_enter Try.func69, Try.ntmps69
  go_wp2
  have T0 : Aside0 (Two .i64 2 w.heap.size w (((w.alloc (.cells #[.int .i8 s, .int .i16 t, .slice A l.length c] 31)).alloc (.cells #[] 2)).alloc (.cells #[] 2)) (.slice (some ⟨w.heap.size + 1, 0, none⟩) 0 0) (.slice (some ⟨w.heap.size + 1 + 1, 0, none⟩) 0 0) [] []) := ⟨⟨
    by
      have := (own_lit (w.alloc (.cells #[.int .i8 s, .int .i16 t, .slice A l.length c] 31)) w.heap.size 2 .i64 [] (by simp) (by simp)).alloc (.cells #[] 2)
      simpa [nums] using this,
    by
      have := own_lit ((w.alloc (.cells #[.int .i8 s, .int .i16 t, .slice A l.length c] 31)).alloc (.cells #[] 2)) w.heap.size 2 .i64 [] (by simp; omega) (by simp)
      simpa [nums] using this,
    fun j hj => by simp [Value.ownBlock] at hj ⊢; omega, (((Below.refl _ _).alloc (Nat.le_refl _) _).alloc (by simp) _).alloc (by simp; omega) _, by simp; omega⟩⟩
  have q0 : Aside0 ((((w.alloc (.cells #[.int .i8 s, .int .i16 t, .slice A l.length c] 31)).alloc (.cells #[] 2)).alloc (.cells #[] 2)).cell? ⟨w.heap.size, 0, none⟩ = some (.int .i8 s)) := ⟨by go_simp⟩
  have q1 : Aside0 ((((w.alloc (.cells #[.int .i8 s, .int .i16 t, .slice A l.length c] 31)).alloc (.cells #[] 2)).alloc (.cells #[] 2)).cell? ⟨w.heap.size, 1, none⟩ = some (.int .i16 t)) := ⟨by go_simp⟩
  have q2 : Aside0 ((((w.alloc (.cells #[.int .i8 s, .int .i16 t, .slice A l.length c] 31)).alloc (.cells #[] 2)).alloc (.cells #[] 2)).cell? ⟨w.heap.size, 2, none⟩ = some (.slice A l.length c)) := ⟨by go_simp⟩
  have hWz : w.heap.size < (((w.alloc (.cells #[.int .i8 s, .int .i16 t, .slice A l.length c] 31)).alloc (.cells #[] 2)).alloc (.cells #[] 2)).heap.size := by simp; omega
  have HBW := Aside0.mk T0.out.below
  have T1 : Aside0 (Two .i64 2 (w.heap.size + 1) (((w.alloc (.cells #[.int .i8 s, .int .i16 t, .slice A l.length c] 31)).alloc (.cells #[] 2)).alloc (.cells #[] 2)) (((w.alloc (.cells #[.int .i8 s, .int .i16 t, .slice A l.length c] 31)).alloc (.cells #[] 2)).alloc (.cells #[] 2)) (.slice (some ⟨w.heap.size + 1, 0, none⟩) 0 0) (.slice (some ⟨w.heap.size + 1 + 1, 0, none⟩) 0 0) [] []) := ⟨⟨
    by
      have := (own_lit (w.alloc (.cells #[.int .i8 s, .int .i16 t, .slice A l.length c] 31)) (w.heap.size + 1) 2 .i64 [] (by simp) (by simp)).alloc (.cells #[] 2)
      simpa [nums] using this,
    by
      have := own_lit ((w.alloc (.cells #[.int .i8 s, .int .i16 t, .slice A l.length c] 31)).alloc (.cells #[] 2)) (w.heap.size + 1) 2 .i64 [] (by simp) (by simp)
      simpa [nums] using this,
    T0.out.ne, Below.refl _ _, by simp⟩⟩
  clear T0
  generalize ((w.alloc (.cells #[.int .i8 s, .int .i16 t, .slice A l.length c] 31)).alloc (.cells #[] 2)).alloc (.cells #[] 2) = W at *
  go_loopg [5, 6, 13] ss.length (fun gg v5 v6 v13 wr => ∃ (kk : Nat), kk ≤ ss.length ∧ ss.length - kk ≤ gg ∧ v13 = .int .i64 kk ∧ Aside0 (Two .i64 2 (w.heap.size + 1) W wr v5 v6 ((ss.take kk).map (·.f0)) ((ss.take kk).map (·.f1))))
  case atStart => exact ⟨0, by omega, by omega, rfl, T1⟩
  case round =>
    obtain ⟨kk, hkk, hg, rfl, HT⟩ := hrel
    have BW : Aside0 (Below w.heap.size w wr) := ⟨HBW.out.trans (HT.out.below.mono (by omega))⟩
    have hwr := HT.out.size
    by_cases hlt : kk < ss.length
    · have hltz : (kk : Int) < (ss.length : Int) := by omega
      obtain ⟨ad, e, hx0, hx1⟩ := at_T47 (Kd.C_below HR1.out BW.out) (kk : Int) (by omega) hltz
      have hy := HSC.out (ss.getD kk z47) (by rw [List.getD_eq_getElem?_getD, List.getElem?_eq_getElem hlt]; exact List.getElem_mem hlt)
      have htk := take_snoc' ss z47 kk hlt
      simp only [rd_T47, Int.toNat_natCast] at hx0 hx1
      subst e
      generalize ss.getD kk z47 = y at hx0 hx1 hy htk
      obtain ⟨f, g⟩ := y
      obtain ⟨a1, a2, a3, a4⟩ := okScan_iff.1 hy
      simp only at a1 a2 a3 a4 hx0 hx1
      have HK1 : Aside0 ((ss.take (kk + 1)).map (·.f0) = (ss.take kk).map (·.f0) ++ [IntKind.i64.wrap f]) := ⟨by rw [htk, IntWalk.i64_in f (by omega)]; simp⟩
      have HK2 : Aside0 ((ss.take (kk + 1)).map (·.f1) = (ss.take kk).map (·.f1) ++ [IntKind.i64.wrap g]) := ⟨by rw [htk, IntWalk.i64_in g (by omega)]; simp⟩
      have hn1 : ((ss.take kk).map (·.f0)).length = kk := by simp; omega
      have hn2 : ((ss.take kk).map (·.f1)).length = kk := by simp; omega
      clear hy htk
      go_wp2
      have HT1 := HT.out.alloc (.cells #[.int .i8 f, .int .i16 g] 47)
      have hk1 : (wr.alloc (.cells #[.int .i8 f, .int .i16 g] 47)).cell? ⟨wr.heap.size, 0, none⟩ = some (.int .i8 f) := by go_simp
      have hk2 : (wr.alloc (.cells #[.int .i8 f, .int .i16 g] 47)).cell? ⟨wr.heap.size, 1, none⟩ = some (.int .i16 g) := by go_simp
      have hk3 : wr.heap.size < (wr.alloc (.cells #[.int .i8 f, .int .i16 g] 47)).heap.size := by simp
      have hn5 : some wr.heap.size ≠ u5.ownBlock := fun h => by have := (HT.out.l.lt _ h.symm).2; omega
      have hn6 : some wr.heap.size ≠ u6.ownBlock := fun h => by have := (HT.out.r.lt _ h.symm).2; omega
      have hfar : ∀ j, (wr.alloc (.cells #[.int .i8 f, .int .i16 g] 47)).heap.size ≤ j → some j ≠ u5.ownBlock := fun j hj h => by have := (HT1.l.lt _ h.symm).2; omega
      clear HT hx0 hx1
      generalize wr.alloc (.cells #[.int .i8 f, .int .i16 g] 47) = W1 at *
      go_region_held_law (fun w' => w'.cell? ⟨wr.heap.size, 0, none⟩ = some (.int .i8 f) ∧ w'.cell? ⟨wr.heap.size, 1, none⟩ = some (.int .i16 g)) (first | go_keep | (go_split_ands; refine ⟨?_, ?_⟩ <;> (first | (rw [hgr2.cell_far _ (by first | (have := hgr.size; simp at this ⊢; omega)) (by assumption)]; assumption) | (rw [hgr.cell_far _ (by simp; omega) (by assumption)]; assumption))))
        (first
          | (refine step_left (k := .i64) (e := 2) (base := w.heap.size + 1) (w0 := W) (v := u5) (v' := u6) (xs := (ss.take kk).map (·.f0)) (ys := (ss.take kk).map (·.f1)) (by repeat (first | exact HT1 | apply Two.drew | apply Two.alloc)) (by rfl) (.tmp 17) (.tmp 21) 36 8 (by rfl) Try.underlying36 infoI64 (by omega) (by rfl) _ (IntKind.i64.wrap f) (by rfl) (by refine Has.out ?_; repeat (first | exact Has.new _ _ (by simp) _ _ | apply Has.drew | apply Has.alloc)) (by omega) ?_; intro v1 w1 HT2 hgr)
          | (refine step_right (k := .i64) (e := 2) (base := w.heap.size + 1) (w0 := W) (v := v1) (v' := u6) (xs := (ss.take kk).map (·.f0) ++ [IntKind.i64.wrap f]) (ys := (ss.take kk).map (·.f1)) (by repeat (first | exact HT2 | apply Two.drew | apply Two.alloc)) (by rfl) (.tmp 23) (.tmp 27) 36 8 (by rfl) Try.underlying36 infoI64 (by omega) (by rfl) _ (IntKind.i64.wrap g) (by rfl) (by refine Has.out ?_; first | exact (Has.new _ _ rfl _ _) | exact (Has.new _ _ rfl _ _).drew | exact Has.grown hgr ((Has.new _ _ (by simp) _ _).alloc _) (hfar _ (by simp)) | exact Has.grown hgr ((Has.new _ _ (by simp) _ _)) (hfar _ (by simp)) | exact Has.grown hgr ((Has.new _ _ (by simp) _ _).alloc _).drew (hfar _ (by simp)) | exact Has.grown hgr ((Has.new _ _ (by simp) _ _)).drew (hfar _ (by simp))) (by omega) ?_; intro v2 w2 HT3 hgr2))
      all_goals
        have HT4 : Aside0 (Two .i64 2 (w.heap.size + 1) W w2 v1 v2 ((ss.take (kk + 1)).map (·.f0)) ((ss.take (kk + 1)).map (·.f1))) := ⟨by rw [HK1.out, HK2.out]; exact HT3⟩
        clear HT1 HT2 HT3 hgr hgr2 hfar hk1 hk2 hk3 hn5 hn6
        go_wp2
        go_roundg (ss.length - (kk + 1))
        case measure => omega
        case rel => exact ⟨kk + 1, by omega, by omega, by go_num, HT4⟩
    · have hltz : ¬ (kk : Int) < (ss.length : Int) := by omega
      have hk : kk = ss.length := by omega
      subst hk
      have HT2 : Aside0 (Two .i64 2 (w.heap.size + 1) W wr u5 u6 (ss.map (·.f0)) (ss.map (·.f1))) := ⟨by have := HT.out; rw [List.take_length] at this; exact this⟩
      have d0 := (HT.out.below.cell (p := ⟨w.heap.size, 0, none⟩) (by simp)).trans q0.out
      have d1 := (HT.out.below.cell (p := ⟨w.heap.size, 1, none⟩) (by simp)).trans q1.out
      have d2 := (HT.out.below.cell (p := ⟨w.heap.size, 2, none⟩) (by simp)).trans q2.out
      have RL : (Kd.int .i64).R 2 wr (w.heap.size + 1) (fun _ => True) u5 (ss.map (·.f0)) := Kd.R_of_own HT2.out.l (fun _ _ => trivial)
      have RR : (Kd.int .i64).R 2 wr (w.heap.size + 1) (fun _ => True) u6 (ss.map (·.f1)) := Kd.R_of_own HT2.out.r (fun _ _ => trivial)
      obtain ⟨A5, c5, rfl, hc5, hr5⟩ := Kd.R_reads RL
      obtain ⟨A6, c6, rfl, hc6, hr6⟩ := Kd.R_reads RR
      have hcode := netCode_is s t A c l A5 c5 (ss.map (·.f0)) A6 c6 (ss.map (·.f1)) wr (Kd.C_below HR.out BW.out) hc OK.out hr5 hc5 hr6 hc6
      rw [List.length_map, List.length_map] at hcode
      have HCO := Aside0.mk hcode
      clear HT RL RR hr5 hr6 hcode
      go_wp2_with fail
      refine HCO.out.mono ?_
      rintro e w2 ⟨rfl, hb2⟩
      have hb3 := Aside0.mk (BW.out.trans (hb2.mono (by omega)))
      clear HCO hb2
      go_wp2
      go_ret
      exact ⟨rfl, hb3.out⟩
end Go.Proofs.Ytgchiepnodoohaa.Q
