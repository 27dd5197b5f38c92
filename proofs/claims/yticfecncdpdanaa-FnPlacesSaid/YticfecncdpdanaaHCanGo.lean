/- impl.scanCode: the code of a net and scans. -/
import Derived.Test.YticfecncdpdanaaHAll
import Derived.Test.YticfecncdpdanaaMA
import Derived.Deep.RegionHeldLaw
import Derived.Deep.AppendLies
set_option linter.unusedVariables false
set_option linter.unusedSimpArgs false
namespace Go.Proofs.Yticfecncdpdanaa.Q
open Go.RowKit Go.Proofs.YticfecncdpdanaaW.PrintWords Go.Proofs.YticfecncdpdanaaW.PrintLast Go.Proofs.YticfecncdpdanaaW.PrintMore
/-- Two slices of whole numbers that are owned, apart from each other. -/
structure Two (k : IntKind) (e : TypeId) (base : Nat) (w0 w : World) (v v' : Value) (xs ys : List Int) : Prop where
  l : w.ownsRow base e 1 v xs.length (nums k xs)
  r : w.ownsRow base e 1 v' ys.length (nums k ys)
  ne : ∀ j, v.ownBlock = some j → v'.ownBlock ≠ some j
  below : Below base w0 w
  size : base ≤ w.heap.size
variable {k : IntKind} {e : TypeId} {base : Nat} {w0 w : World} {v v' : Value} {xs ys : List Int}
theorem Two.alloc (h : Two k e base w0 w v v' xs ys) (o : Obj) : Two k e base w0 (w.alloc o) v v' xs ys := ⟨h.l.alloc o, h.r.alloc o, h.ne, h.below.alloc h.size o, by have := h.size; simp; omega⟩
theorem Two.drew (h : Two k e base w0 w v v' xs ys) : Two k e base w0 w.drew v v' xs ys := ⟨h.l.drew, h.r.drew, h.ne, h.below.drew, h.size⟩
section
variable {ops : Array Oper} {o : Oper} {a : Act} {Q : Exit → Act → World → Prop} {K : Act → World → Prop} {E : Prop}
theorem nums_len (k : IntKind) (xs : List Int) : (nums k xs).length = xs.length := by simp [nums]
theorem nums_snoc (k : IntKind) (xs : List Int) (y : Int) : nums k xs ++ [Value.int k y] = nums k (xs ++ [y]) := by simp [nums]
theorem step_one (hgd : o.guard = none) (s x : Operand) (t : TypeId) (bytes : Nat)
    (ho : o.op = .call { callee := .builtin .append, args := #[s, x], argTypes := #[t, t] })
    (ht : Try.prog.underlying t = some (.slice e)) (hinfo : (Try.prog.info? e).map (fun i => (i.zero, i.size, i.bytes)) = some (some (.int k 0), 1, bytes)) (hb0 : 0 < bytes)
    (hs : a.eval s = v) (g : Nat) (y : Int) (hx : a.eval x = .slice (some ⟨g, 0, none⟩) 1 1) (hg : w.heap[g]? = some (.cells #[.int k y] e (0, 0)))
    (HO : w.ownsRow base e 1 v xs.length (nums k xs)) (HB : Below base w0 w) (hbase : base ≤ w.heap.size) (hl : (xs.length + 1) * bytes ≤ 140737488355328)
    (h : ∀ v1 w1, w1.ownsRow base e 1 v1 (xs ++ [y]).length (nums k (xs ++ [y])) → Below base w0 w1 → base ≤ w1.heap.size → w.grownBy w1 v.ownBlock → (v1.ownBlock = v.ownBlock ∨ v1.ownBlock = some w.heap.size) → K (a.put o.dst v1) w1) :
    if Region.wanted o (yielded ops a.tmps) = true then Oper.wp Try.prog o a w K Q else E := by
  obtain ⟨i0, hi, hzz⟩ := Option.map_eq_some_iff.1 hinfo
  simp only [Prod.mk.injEq] at hzz
  obtain ⟨hz0, hz1, hz2⟩ := hzz
  have hlen : xs.length + 1 ≤ 140737488355328 := Nat.le_trans (Nat.le_mul_of_pos_right _ hb0) hl
  refine step_append_lies w hgd s x t ho base e i0 (.int k 0) 1 bytes ht hi hz0 hz1 hz2 rfl (by omega) v xs.length (nums k xs) hs HO ⟨g, 0, none⟩ 1 1 [.int k y] hx rfl
    (World.news_of_block (cs := #[.int k y]) (t := e) (fr := (0, 0)) hg) (by simp [Value.oneCell']) (by omega) (by simp only [maxLen]; omega) hl hbase _ rfl ?_
  intro g2 cap w1 hown hgr hat hlt
  refine h _ w1 ?_ (HB.grown hgr hbase (own_base HO)) (Nat.le_trans hbase hgr.size) hgr ?_
  · rw [nums_snoc] at hown
    simpa using hown
  · rcases hat with hat | rfl
    · exact .inl hat.symm
    · exact .inr rfl
theorem step_left (HT : Two k e base w0 w v v' xs ys) (hgd : o.guard = none) (s x : Operand) (t : TypeId) (bytes : Nat)
    (ho : o.op = .call { callee := .builtin .append, args := #[s, x], argTypes := #[t, t] })
    (ht : Try.prog.underlying t = some (.slice e)) (hinfo : (Try.prog.info? e).map (fun i => (i.zero, i.size, i.bytes)) = some (some (.int k 0), 1, bytes)) (hb0 : 0 < bytes)
    (hs : a.eval s = v) (g : Nat) (y : Int) (hx : a.eval x = .slice (some ⟨g, 0, none⟩) 1 1) (hg : w.heap[g]? = some (.cells #[.int k y] e (0, 0))) (hl : (xs.length + 1) * bytes ≤ 140737488355328)
    (h : ∀ v1 w1, Two k e base w0 w1 v1 v' (xs ++ [y]) ys → w.grownBy w1 v.ownBlock → K (a.put o.dst v1) w1) :
    if Region.wanted o (yielded ops a.tmps) = true then Oper.wp Try.prog o a w K Q else E := by
  refine step_one (w0 := w0) hgd s x t bytes ho ht hinfo hb0 hs g y hx hg HT.l HT.below HT.size hl ?_
  intro v1 w1 hown hb hsz hgr hat
  refine h v1 w1 ⟨hown, HT.r.kept hgr ?_, ?_, hb, hsz⟩ hgr
  · cases hv : v.ownBlock with
    | none => cases v'.ownBlock <;> simp
    | some j => exact .inr (HT.ne j hv)
  · intro j hj
    rcases hat with hat | hat
    · exact HT.ne j (by rw [← hat, hj])
    · intro h2
      have := (HT.r.lt j h2).2
      rw [hj] at hat
      injection hat with hat
      omega
theorem step_right (HT : Two k e base w0 w v v' xs ys) (hgd : o.guard = none) (s x : Operand) (t : TypeId) (bytes : Nat)
    (ho : o.op = .call { callee := .builtin .append, args := #[s, x], argTypes := #[t, t] })
    (ht : Try.prog.underlying t = some (.slice e)) (hinfo : (Try.prog.info? e).map (fun i => (i.zero, i.size, i.bytes)) = some (some (.int k 0), 1, bytes)) (hb0 : 0 < bytes)
    (hs : a.eval s = v') (g : Nat) (y : Int) (hx : a.eval x = .slice (some ⟨g, 0, none⟩) 1 1) (hg : w.heap[g]? = some (.cells #[.int k y] e (0, 0))) (hl : (ys.length + 1) * bytes ≤ 140737488355328)
    (h : ∀ v1 w1, Two k e base w0 w1 v v1 xs (ys ++ [y]) → w.grownBy w1 v'.ownBlock → K (a.put o.dst v1) w1) :
    if Region.wanted o (yielded ops a.tmps) = true then Oper.wp Try.prog o a w K Q else E := by
  refine step_one (w0 := w0) hgd s x t bytes ho ht hinfo hb0 hs g y hx hg HT.r HT.below HT.size hl ?_
  intro v1 w1 hown hb hsz hgr hat
  refine h v1 w1 ⟨HT.l.kept hgr ?_, hown, ?_, hb, hsz⟩ hgr
  · cases hv : v.ownBlock with
    | none => simp
    | some j => exact .inr fun h2 => HT.ne j hv h2.symm
  · intro j hj h2
    rcases hat with hat | hat
    · exact HT.ne j hj (by rw [← hat, h2])
    · have := (HT.l.lt j hj).2
      rw [h2] at hat
      injection hat with hat
      omega
end
/-- A block holds just these cells. -/
structure Has (w : World) (g : Nat) (c : Array Value) (e : TypeId) : Prop where
  out : w.heap[g]? = some (.cells c e (0, 0))
theorem Has.new (w : World) (g : Nat) (hg : g = w.heap.size) (c : Array Value) (e : TypeId) : Has (w.alloc (.cells c e)) g c e := ⟨row_at _ _ _ _ hg⟩
theorem Has.alloc {w : World} {g : Nat} {c : Array Value} {e : TypeId} (h : Has w g c e) (o : Obj) : Has (w.alloc o) g c e := ⟨(row_past _ _ _ (Array.getElem?_eq_some_iff.1 h.out).1).trans h.out⟩
theorem Has.drew {w : World} {g : Nat} {c : Array Value} {e : TypeId} (h : Has w g c e) : Has w.drew g c e := ⟨h.out⟩
theorem Has.grown {w w1 : World} {g : Nat} {c : Array Value} {e : TypeId} {row : Option Nat} (hg : w.grownBy w1 row) (h : Has w g c e) (hne : some g ≠ row) : Has w1 g c e := ⟨(hg.block g (Array.getElem?_eq_some_iff.1 h.out).1 hne).trans h.out⟩
def okScan (x : S31) : Bool := decide (-128 ≤ x.f0) && (decide (x.f0 ≤ 127) && (decide (-32768 ≤ x.f1) && decide (x.f1 ≤ 32767)))
theorem okScan_iff {x : S31} : okScan x = true ↔ -128 ≤ x.f0 ∧ x.f0 ≤ 127 ∧ -32768 ≤ x.f1 ∧ x.f1 ≤ 32767 := by
  unfold okScan
  simp only [Bool.and_eq_true, decide_eq_true_eq]
def scansIn (s : Int) (ss : List S31) : Bool := allIn (ss.map (·.f0)) 0 (s - 1) && allIn (ss.map (·.f1)) 0 300
set_option maxHeartbeats 4000000 in
set_option maxRecDepth 100000 in
theorem scanCode_is (s t : Int) (A : Option Addr) (c : Nat) (l : List S44) (A1 : Option Addr) (c1 : Nat) (ss : List S31) (w : World) (hr : Kd.C k44 w A l.length l) (hc : l.length ≤ c) (hok : okNet s t l = true)
    (hr1 : Kd.C k31 w A1 ss.length ss) (hc1 : ss.length ≤ c1) (hl1 : ss.length ≤ 1048576) (hsc : ∀ x ∈ ss, okScan x = true) :
    Calls Try.prog 32 #[.agg #[.int .i8 s, .int .i16 t, .slice A l.length c], .slice A1 ss.length c1] w fun e w' =>
      e = .returned (.int .i64 (codeB (netB s t l) (scansIn s ss))) ∧ Below w.heap.size w w' := by
  have HR := Aside0.mk hr
  have HR1 := Aside0.mk hr1
  have OK := Aside0.mk hok
  have HSC := Aside0.mk hsc
  clear hr hr1 hok hsc
  go_enter Try.func32, Try.ntmps32
  go_wp2
  have T0 : Aside0 (Two .i64 2 w.heap.size w (((w.alloc (.cells #[.int .i8 s, .int .i16 t, .slice A l.length c] 28)).alloc (.cells #[] 2)).alloc (.cells #[] 2)) (.slice (some ⟨w.heap.size + 1, 0, none⟩) 0 0) (.slice (some ⟨w.heap.size + 1 + 1, 0, none⟩) 0 0) [] []) := ⟨⟨
    by
      have := (own_lit (w.alloc (.cells #[.int .i8 s, .int .i16 t, .slice A l.length c] 28)) w.heap.size 2 .i64 [] (by simp) (by simp)).alloc (.cells #[] 2)
      simpa [nums] using this,
    by
      have := own_lit ((w.alloc (.cells #[.int .i8 s, .int .i16 t, .slice A l.length c] 28)).alloc (.cells #[] 2)) w.heap.size 2 .i64 [] (by simp; omega) (by simp)
      simpa [nums] using this,
    fun j hj => by simp [Value.ownBlock] at hj ⊢; omega, (((Below.refl _ _).alloc (Nat.le_refl _) _).alloc (by simp) _).alloc (by simp; omega) _, by simp; omega⟩⟩
  have q0 : Aside0 ((((w.alloc (.cells #[.int .i8 s, .int .i16 t, .slice A l.length c] 28)).alloc (.cells #[] 2)).alloc (.cells #[] 2)).cell? ⟨w.heap.size, 0, none⟩ = some (.int .i8 s)) := ⟨by go_simp⟩
  have q1 : Aside0 ((((w.alloc (.cells #[.int .i8 s, .int .i16 t, .slice A l.length c] 28)).alloc (.cells #[] 2)).alloc (.cells #[] 2)).cell? ⟨w.heap.size, 1, none⟩ = some (.int .i16 t)) := ⟨by go_simp⟩
  have q2 : Aside0 ((((w.alloc (.cells #[.int .i8 s, .int .i16 t, .slice A l.length c] 28)).alloc (.cells #[] 2)).alloc (.cells #[] 2)).cell? ⟨w.heap.size, 2, none⟩ = some (.slice A l.length c)) := ⟨by go_simp⟩
  have hWz : w.heap.size < (((w.alloc (.cells #[.int .i8 s, .int .i16 t, .slice A l.length c] 28)).alloc (.cells #[] 2)).alloc (.cells #[] 2)).heap.size := by simp; omega
  have HBW := Aside0.mk T0.out.below
  have T1 : Aside0 (Two .i64 2 (w.heap.size + 1) (((w.alloc (.cells #[.int .i8 s, .int .i16 t, .slice A l.length c] 28)).alloc (.cells #[] 2)).alloc (.cells #[] 2)) (((w.alloc (.cells #[.int .i8 s, .int .i16 t, .slice A l.length c] 28)).alloc (.cells #[] 2)).alloc (.cells #[] 2)) (.slice (some ⟨w.heap.size + 1, 0, none⟩) 0 0) (.slice (some ⟨w.heap.size + 1 + 1, 0, none⟩) 0 0) [] []) := ⟨⟨
    by
      have := (own_lit (w.alloc (.cells #[.int .i8 s, .int .i16 t, .slice A l.length c] 28)) (w.heap.size + 1) 2 .i64 [] (by simp) (by simp)).alloc (.cells #[] 2)
      simpa [nums] using this,
    by
      have := own_lit ((w.alloc (.cells #[.int .i8 s, .int .i16 t, .slice A l.length c] 28)).alloc (.cells #[] 2)) (w.heap.size + 1) 2 .i64 [] (by simp) (by simp)
      simpa [nums] using this,
    T0.out.ne, Below.refl _ _, by simp⟩⟩
  clear T0
  generalize ((w.alloc (.cells #[.int .i8 s, .int .i16 t, .slice A l.length c] 28)).alloc (.cells #[] 2)).alloc (.cells #[] 2) = W at *
  go_loopg [5, 6, 13] ss.length (fun gg v5 v6 v13 wr => ∃ (kk : Nat), kk ≤ ss.length ∧ ss.length - kk ≤ gg ∧ v13 = .int .i64 kk ∧ Aside0 (Two .i64 2 (w.heap.size + 1) W wr v5 v6 ((ss.take kk).map (·.f0)) ((ss.take kk).map (·.f1))))
  case atStart => exact ⟨0, by omega, by omega, rfl, T1⟩
  case round =>
    obtain ⟨kk, hkk, hg, rfl, HT⟩ := hrel
    have BW : Aside0 (Below w.heap.size w wr) := ⟨HBW.out.trans (HT.out.below.mono (by omega))⟩
    have hwr := HT.out.size
    by_cases hlt : kk < ss.length
    · have hltz : (kk : Int) < (ss.length : Int) := by omega
      obtain ⟨ad, e, hx0, hx1⟩ := at_T31 (Kd.C_below HR1.out BW.out) (kk : Int) (by omega) hltz
      have hy := HSC.out (ss.getD kk z31) (by rw [List.getD_eq_getElem?_getD, List.getElem?_eq_getElem hlt]; exact List.getElem_mem hlt)
      have htk := take_snoc' ss z31 kk hlt
      simp only [rd_T31, Int.toNat_natCast] at hx0 hx1
      subst e
      generalize ss.getD kk z31 = y at hx0 hx1 hy htk
      obtain ⟨f, g⟩ := y
      obtain ⟨a1, a2, a3, a4⟩ := okScan_iff.1 hy
      simp only at a1 a2 a3 a4 hx0 hx1
      have HK1 : Aside0 ((ss.take (kk + 1)).map (·.f0) = (ss.take kk).map (·.f0) ++ [IntKind.i64.wrap f]) := ⟨by rw [htk, IntWalk.i64_in f (by omega)]; simp⟩
      have HK2 : Aside0 ((ss.take (kk + 1)).map (·.f1) = (ss.take kk).map (·.f1) ++ [IntKind.i64.wrap g]) := ⟨by rw [htk, IntWalk.i64_in g (by omega)]; simp⟩
      have hn1 : ((ss.take kk).map (·.f0)).length = kk := by simp; omega
      have hn2 : ((ss.take kk).map (·.f1)).length = kk := by simp; omega
      clear hy htk
      go_wp2
      have HT1 := HT.out.alloc (.cells #[.int .i8 f, .int .i16 g] 31)
      have hk1 : (wr.alloc (.cells #[.int .i8 f, .int .i16 g] 31)).cell? ⟨wr.heap.size, 0, none⟩ = some (.int .i8 f) := by go_simp
      have hk2 : (wr.alloc (.cells #[.int .i8 f, .int .i16 g] 31)).cell? ⟨wr.heap.size, 1, none⟩ = some (.int .i16 g) := by go_simp
      have hk3 : wr.heap.size < (wr.alloc (.cells #[.int .i8 f, .int .i16 g] 31)).heap.size := by simp
      have hn5 : some wr.heap.size ≠ u5.ownBlock := fun h => by have := (HT.out.l.lt _ h.symm).2; omega
      have hn6 : some wr.heap.size ≠ u6.ownBlock := fun h => by have := (HT.out.r.lt _ h.symm).2; omega
      have hfar : ∀ j, (wr.alloc (.cells #[.int .i8 f, .int .i16 g] 31)).heap.size ≤ j → some j ≠ u5.ownBlock := fun j hj h => by have := (HT1.l.lt _ h.symm).2; omega
      clear HT hx0 hx1
      generalize wr.alloc (.cells #[.int .i8 f, .int .i16 g] 31) = W1 at *
      go_region_held_law (fun w' => w'.cell? ⟨wr.heap.size, 0, none⟩ = some (.int .i8 f) ∧ w'.cell? ⟨wr.heap.size, 1, none⟩ = some (.int .i16 g)) (first | go_keep | (go_split_ands; refine ⟨?_, ?_⟩ <;> (first | (rw [hgr2.cell_far _ (by first | (have := hgr.size; simp at this ⊢; omega)) (by assumption)]; assumption) | (rw [hgr.cell_far _ (by simp; omega) (by assumption)]; assumption))))
        (first
          | (refine step_left (k := .i64) (e := 2) (base := w.heap.size + 1) (w0 := W) (v := u5) (v' := u6) (xs := (ss.take kk).map (·.f0)) (ys := (ss.take kk).map (·.f1)) (by repeat (first | exact HT1 | apply Two.drew | apply Two.alloc)) (by rfl) (.tmp 17) (.tmp 21) 34 8 (by rfl) Try.underlying34 infoI64 (by omega) (by rfl) _ (IntKind.i64.wrap f) (by rfl) (by refine Has.out ?_; repeat (first | exact Has.new _ _ (by simp) _ _ | apply Has.drew | apply Has.alloc)) (by omega) ?_; intro v1 w1 HT2 hgr)
          | (refine step_right (k := .i64) (e := 2) (base := w.heap.size + 1) (w0 := W) (v := v1) (v' := u6) (xs := (ss.take kk).map (·.f0) ++ [IntKind.i64.wrap f]) (ys := (ss.take kk).map (·.f1)) (by repeat (first | exact HT2 | apply Two.drew | apply Two.alloc)) (by rfl) (.tmp 23) (.tmp 27) 34 8 (by rfl) Try.underlying34 infoI64 (by omega) (by rfl) _ (IntKind.i64.wrap g) (by rfl) (by refine Has.out ?_; first | exact (Has.new _ _ rfl _ _) | exact (Has.new _ _ rfl _ _).drew | exact Has.grown hgr ((Has.new _ _ (by simp) _ _).alloc _) (hfar _ (by simp)) | exact Has.grown hgr ((Has.new _ _ (by simp) _ _)) (hfar _ (by simp)) | exact Has.grown hgr ((Has.new _ _ (by simp) _ _).alloc _).drew (hfar _ (by simp)) | exact Has.grown hgr ((Has.new _ _ (by simp) _ _)).drew (hfar _ (by simp))) (by omega) ?_; intro v2 w2 HT3 hgr2))
      all_goals
        have HT4 : Aside0 (Two .i64 2 (w.heap.size + 1) W w2 v1 v2 ((ss.take (kk + 1)).map (·.f0)) ((ss.take (kk + 1)).map (·.f1))) := ⟨by rw [HK1.out, HK2.out]; exact HT3⟩
        clear HT1 HT2 HT3 hgr hgr2 hfar hk1 hk2 hk3 hn5 hn6
        go_wp2
        go_roundg (ss.length - (kk + 1))
        case measure => omega
        case rel => exact ⟨kk + 1, by omega, by omega, by go_num, HT4⟩
    · have hltz : ¬ (kk : Int) < (ss.length : Int) := by omega
      have hk : kk = ss.length := by omega
      subst hk
      have HT2 : Aside0 (Two .i64 2 (w.heap.size + 1) W wr u5 u6 (ss.map (·.f0)) (ss.map (·.f1))) := ⟨by have := HT.out; rw [List.take_length] at this; exact this⟩
      have d0 := (HT.out.below.cell (p := ⟨w.heap.size, 0, none⟩) (by simp)).trans q0.out
      have d1 := (HT.out.below.cell (p := ⟨w.heap.size, 1, none⟩) (by simp)).trans q1.out
      have d2 := (HT.out.below.cell (p := ⟨w.heap.size, 2, none⟩) (by simp)).trans q2.out
      have RL : (Kd.int .i64).R 2 wr (w.heap.size + 1) (fun _ => True) u5 (ss.map (·.f0)) := Kd.R_of_own HT2.out.l (fun _ _ => trivial)
      have RR : (Kd.int .i64).R 2 wr (w.heap.size + 1) (fun _ => True) u6 (ss.map (·.f1)) := Kd.R_of_own HT2.out.r (fun _ _ => trivial)
      obtain ⟨A5, c5, rfl, hc5, hr5⟩ := Kd.R_reads RL
      obtain ⟨A6, c6, rfl, hc6, hr6⟩ := Kd.R_reads RR
      have hcode := netCode_is s t A c l A5 c5 (ss.map (·.f0)) A6 c6 (ss.map (·.f1)) wr (Kd.C_below HR.out BW.out) hc OK.out hr5 hc5 hr6 hc6
      rw [List.length_map, List.length_map] at hcode
      have HCO := Aside0.mk hcode
      clear HT RL RR hr5 hr6 hcode
      go_wp2_with fail
      refine HCO.out.mono ?_
      rintro e w2 ⟨rfl, hb2⟩
      have hb3 := Aside0.mk (BW.out.trans (hb2.mono (by omega)))
      clear HCO hb2
      go_wp2
      go_ret
      exact ⟨rfl, hb3.out⟩
end Go.Proofs.Yticfecncdpdanaa.Q
/- impl.canGo, CanGo. -/
set_option linter.unusedVariables false
set_option linter.unusedSimpArgs false
namespace Go.Proofs.Yticfecncdpdanaa.Q
open Go.RowKit Go.Proofs.YticfecncdpdanaaW.PrintWords Go.Proofs.YticfecncdpdanaaW.PrintLast Go.Proofs.YticfecncdpdanaaW.PrintMore
instance (t m n : Int) (h k : Nat) : Decidable (goes t m n h k) := by unfold goes; infer_instance
/-- Whether there is such an arrival; n: no more lanes than that. -/
def arrN (t : Int) (l : List S44) (a0 h0 : Nat) : Nat → Nat → Nat → Bool
  | 0, _, _ => false
  | n + 1, s, h => l.any fun x => decide (x.f1.toNat = s) && ((decide (x.f0.toNat = a0) && decide (goes t x.f2 x.f3 h0 h)) || (List.range h).any fun k => arrN t l a0 h0 n x.f0.toNat k && decide (goes t x.f2 x.f3 k h))
theorem arrN_sound {t : Int} {l : List S44} {a0 h0 : Nat} : ∀ (n s h : Nat), arrN t l a0 h0 n s h = true → Arr t l a0 h0 s h
  | 0, s, h, e => by simp [arrN] at e
  | n + 1, s, h, e => by
    simp only [arrN, List.any_eq_true, Bool.and_eq_true, Bool.or_eq_true, decide_eq_true_eq] at e
    obtain ⟨x, hx, rfl, ⟨h1, h2⟩ | ⟨k, _, h1, h2⟩⟩ := e
    · exact .first x hx h h1 h2
    · exact .more x hx k h (arrN_sound n _ _ h1) h2
theorem arrN_found {t : Int} {l : List S44} {a0 h0 : Nat} (hl : ∀ x ∈ l, laneV x) {s h : Nat} (e : Arr t l a0 h0 s h) : ∀ n, h < n → arrN t l a0 h0 n s h = true := by
  induction e with
  | first x hx k hf hg =>
    intro n hn
    obtain ⟨m, rfl⟩ : ∃ m, n = m + 1 := ⟨n - 1, by omega⟩
    simp only [arrN, List.any_eq_true, Bool.and_eq_true, Bool.or_eq_true, decide_eq_true_eq]
    exact ⟨x, hx, rfl, .inl ⟨hf, hg⟩⟩
  | more x hx k k' hp hg ih =>
    intro n hn
    obtain ⟨m, rfl⟩ : ∃ m, n = m + 1 := ⟨n - 1, by omega⟩
    have hv := hl x hx
    obtain ⟨v0, v1, v2, v3, v4, _⟩ := hv
    have hlt : k < k' := by
      have := hg
      unfold goes at this
      omega
    simp only [arrN, List.any_eq_true, Bool.and_eq_true, Bool.or_eq_true, decide_eq_true_eq]
    exact ⟨x, hx, rfl, .inr ⟨k, List.mem_range.2 hlt, ih m (by omega), hg⟩⟩
@[irreducible] def arrB (t : Int) (l : List S44) (a0 h0 s h : Nat) : Bool := arrN t l a0 h0 (h + 1) s h
theorem arrB_iff {t : Int} {l : List S44} (hl : ∀ x ∈ l, laneV x) (a0 h0 s h : Nat) : arrB t l a0 h0 s h = true ↔ Arr t l a0 h0 s h := by
  unfold arrB
  exact ⟨arrN_sound _ _ _, fun e => arrN_found hl e _ (by omega)⟩
theorem arrB_eq {t : Int} {l : List S44} (hl : ∀ x ∈ l, laneV x) {a0 h0 : Nat} {N : List Bool} (hN : ArrT t l a0 h0 N) {s h : Nat} (hs : s < 8) (hh : h < 301) : gat N s h = arrB t l a0 h0 s h := by
  have h1 := hN s h hs hh
  rw [← arrB_iff hl] at h1
  cases h2 : gat N s h with
  | true => exact (h1.1 h2).symm
  | false =>
    cases h3 : arrB t l a0 h0 s h with
    | false => rfl
    | true => rw [h1.2 h3] at h2; exact h2.symm
set_option maxHeartbeats 4000000 in
set_option maxRecDepth 100000 in
theorem canGo_is (s t : Int) (A0 : Option Addr) (c : Nat) (l : List S44) (a0 h0 b0 h1 : Nat) (w : World) (hr : Kd.C k44 w A0 l.length l) (hc : l.length ≤ c) (hl : ∀ x ∈ l, laneV x) (ht0 : 0 ≤ t) (ht1 : t ≤ 40) (ha : a0 < 8) (hh : h0 < 301) (hb : b0 < 8) (hh1 : h1 < 301) :
    Calls Try.prog 42 #[.agg #[.int .i8 s, .int .i16 t, .slice A0 l.length c], .agg #[.int .i8 a0, .int .i16 h0], .agg #[.int .i8 b0, .int .i16 h1]] w fun e w' =>
      e = .returned (.bool (arrB t l a0 h0 b0 h1)) ∧ Below w.heap.size w w' := by
  have HR := Aside0.mk hr
  have HL := Aside0.mk hl
  clear hr hl
  go_enter Try.func42, Try.ntmps42
  go_wp2
  have hbz : (b0 : Int) < 8 := by omega
  have hhz : (h1 : Int) < 301 := by omega
  have HB : Aside0 (Below w.heap.size w (((w.alloc (.cells #[.int .i8 s, .int .i16 t, .slice A0 l.length c] 28)).alloc (.cells #[.int .i8 a0, .int .i16 h0] 31)).alloc (.cells #[.int .i8 b0, .int .i16 h1] 31))) := ⟨(((Below.refl _ _).alloc (Nat.le_refl _) _).alloc (by simp) _).alloc (by simp; omega) _⟩
  have q0 : (((w.alloc (.cells #[.int .i8 s, .int .i16 t, .slice A0 l.length c] 28)).alloc (.cells #[.int .i8 a0, .int .i16 h0] 31)).alloc (.cells #[.int .i8 b0, .int .i16 h1] 31)).cell? ⟨w.heap.size, 0, none⟩ = some (.int .i8 s) := by go_simp
  have q1 : (((w.alloc (.cells #[.int .i8 s, .int .i16 t, .slice A0 l.length c] 28)).alloc (.cells #[.int .i8 a0, .int .i16 h0] 31)).alloc (.cells #[.int .i8 b0, .int .i16 h1] 31)).cell? ⟨w.heap.size, 1, none⟩ = some (.int .i16 t) := by go_simp
  have q2 : (((w.alloc (.cells #[.int .i8 s, .int .i16 t, .slice A0 l.length c] 28)).alloc (.cells #[.int .i8 a0, .int .i16 h0] 31)).alloc (.cells #[.int .i8 b0, .int .i16 h1] 31)).cell? ⟨w.heap.size, 2, none⟩ = some (.slice A0 l.length c) := by go_simp
  have q3 : (((w.alloc (.cells #[.int .i8 s, .int .i16 t, .slice A0 l.length c] 28)).alloc (.cells #[.int .i8 a0, .int .i16 h0] 31)).alloc (.cells #[.int .i8 b0, .int .i16 h1] 31)).cell? ⟨w.heap.size + 1, 0, none⟩ = some (.int .i8 (a0 : Int)) := by go_simp
  have q4 : (((w.alloc (.cells #[.int .i8 s, .int .i16 t, .slice A0 l.length c] 28)).alloc (.cells #[.int .i8 a0, .int .i16 h0] 31)).alloc (.cells #[.int .i8 b0, .int .i16 h1] 31)).cell? ⟨w.heap.size + 1, 1, none⟩ = some (.int .i16 (h0 : Int)) := by go_simp
  have q5 : (((w.alloc (.cells #[.int .i8 s, .int .i16 t, .slice A0 l.length c] 28)).alloc (.cells #[.int .i8 a0, .int .i16 h0] 31)).alloc (.cells #[.int .i8 b0, .int .i16 h1] 31)).cell? ⟨w.heap.size + 1 + 1, 0, none⟩ = some (.int .i8 (b0 : Int)) := by go_simp
  have q6 : (((w.alloc (.cells #[.int .i8 s, .int .i16 t, .slice A0 l.length c] 28)).alloc (.cells #[.int .i8 a0, .int .i16 h0] 31)).alloc (.cells #[.int .i8 b0, .int .i16 h1] 31)).cell? ⟨w.heap.size + 1 + 1, 1, none⟩ = some (.int .i16 (h1 : Int)) := by go_simp
  have hz : (((w.alloc (.cells #[.int .i8 s, .int .i16 t, .slice A0 l.length c] 28)).alloc (.cells #[.int .i8 a0, .int .i16 h0] 31)).alloc (.cells #[.int .i8 b0, .int .i16 h1] 31)).heap.size = w.heap.size + 1 + 1 + 1 := by simp
  generalize ((w.alloc (.cells #[.int .i8 s, .int .i16 t, .slice A0 l.length c] 28)).alloc (.cells #[.int .i8 a0, .int .i16 h0] 31)).alloc (.cells #[.int .i8 b0, .int .i16 h1] 31) = W at *
  have HZ := Aside0.mk hz
  clear hz
  go_region_held_law (fun w' => w'.cell? ⟨w.heap.size, 0, none⟩ = some (.int .i8 s) ∧ w'.cell? ⟨w.heap.size, 1, none⟩ = some (.int .i16 t) ∧ w'.cell? ⟨w.heap.size, 2, none⟩ = some (.slice A0 l.length c) ∧ w'.cell? ⟨w.heap.size + 1, 0, none⟩ = some (.int .i8 (a0 : Int)) ∧ w'.cell? ⟨w.heap.size + 1, 1, none⟩ = some (.int .i16 (h0 : Int)) ∧ w'.cell? ⟨w.heap.size + 1 + 1, 0, none⟩ = some (.int .i8 (b0 : Int)) ∧ w'.cell? ⟨w.heap.size + 1 + 1, 1, none⟩ = some (.int .i16 (h1 : Int)))
    (first | go_keep | (go_split_ands; refine ⟨?_, ?_, ?_, ?_, ?_, ?_, ?_⟩ <;> (rw [hb2.cell (by have := HZ.out; simp; omega)]; assumption)))
    ((go_at_call 34; refine (all_is s t A0 c l a0 h0 _ (by first | exact Kd.C_below HR.out HB.out | exact Kd.C_drew (Kd.C_below HR.out HB.out)) hc HL.out ht0 ht1 ha hh).mono ?_; rintro e w1 ⟨N, lN, hN, rfl, hb2⟩; have hix := fun w => run_indexT .i8 N lN b0 hb w; have hiy := fun w => run_indexH .i16 ((N.drop (b0 * 301)).take 301) (part_length N (b0 * 301) 301 (by omega)) h1 hh1 w))
  have HE : Aside0 (N[b0 * 301 + h1]?.getD false = arrB t l a0 h0 b0 h1) := ⟨by rw [← arrB_eq HL.out hN hb hh1]; unfold gat; rw [List.getD_eq_getElem?_getD]⟩
  have HB2 : Aside0 (Below w.heap.size w w1) := ⟨by first | exact HB.out.trans (hb2.mono (by have := HZ.out; omega)) | exact HB.out.drew.trans (hb2.mono (by have := HZ.out; simp; omega))⟩
  clear hb2 q0 q1 q2 q3 q4 q5 q6 hN
  go_wp2
  go_ret
  refine ⟨?_, HB2.out⟩
  rw [HE.out]
  rfl
/-- Two scans, just boxed. -/
theorem two_scans (w : World) (B : Nat) (hB : B = w.heap.size) (x y : S31) : Kd.C k31 (w.alloc (.cells #[.int .i8 x.f0, .int .i16 x.f1, .int .i8 y.f0, .int .i16 y.f1] 31)) (some ⟨B, 0, none⟩) [x, y].length [x, y] := by
  subst hB
  refine ⟨rfl, by simp, fun _ => ⟨_, rfl, fun j p hj => ⟨[.int .i8 p.f0, .int .i16 p.f1], rfl, k31_mk _ p, fun i u hu => ?_⟩⟩⟩
  have hsz : k31.sz = 2 := rfl
  rw [hsz]
  match j, i, hj, hu with
  | 0, 0, hj, hu => simp at hj hu; subst hj hu; go_simp
  | 0, 1, hj, hu => simp at hj hu; subst hj hu; go_simp
  | 1, 0, hj, hu => simp at hj hu; subst hj hu; go_simp
  | 1, 1, hj, hu => simp at hj hu; subst hj hu; go_simp
  | 0, i + 2, hj, hu => simp at hu
  | 1, i + 2, hj, hu => simp at hu
  | j + 2, _, hj, hu => simp at hj
theorem one_scan (w : World) (B : Nat) (hB : B = w.heap.size) (x : S31) : Kd.C k31 (w.alloc (.cells #[.int .i8 x.f0, .int .i16 x.f1] 31)) (some ⟨B, 0, none⟩) [x].length [x] := by
  subst hB
  refine ⟨rfl, by simp, fun _ => ⟨_, rfl, fun j p hj => ⟨[.int .i8 p.f0, .int .i16 p.f1], rfl, k31_mk _ p, fun i u hu => ?_⟩⟩⟩
  have hsz : k31.sz = 2 := rfl
  rw [hsz]
  match j, i, hj, hu with
  | 0, 0, hj, hu => simp at hj hu; subst hj hu; go_simp
  | 0, 1, hj, hu => simp at hj hu; subst hj hu; go_simp
  | 0, i + 2, hj, hu => simp at hu
  | j + 1, _, hj, hu => simp at hj
/-- A valid net's lanes. -/
theorem laneV_of {s t : Int} {l : List S44} (h : netB s t l = true) : (∀ x ∈ l, laneV x) ∧ 1 ≤ s ∧ s ≤ 8 ∧ 0 ≤ t ∧ t ≤ 40 := by
  simp only [netB, inB, Bool.and_eq_true, decide_eq_true_eq, Bool.not_eq_true', List.any_eq_false] at h
  obtain ⟨⟨h1, h2⟩, ⟨h3, h4⟩, h5, h6⟩ := h
  refine ⟨fun x hx => ?_, h1, h2, h3, h4⟩
  have := h6 x hx
  simp only [laneBad, inB, Bool.or_eq_true, Bool.and_eq_true, Bool.not_eq_true', decide_eq_true_eq, decide_eq_false_iff_not, Bool.and_eq_false_iff, beq_iff_eq] at this
  unfold laneV
  omega
theorem scansIn_nat {s : Int} {a : S31} (hs : s ≤ 8) (h : inB a.f0 0 (s - 1) = true ∧ inB a.f1 0 300 = true) : ∃ a0 h0 : Nat, a = ⟨a0, h0⟩ ∧ a0 < 8 ∧ h0 < 301 ∧ a.f0.toNat = a0 ∧ a.f1.toNat = h0 := by
  obtain ⟨f, g⟩ := a
  simp only [inB_true] at h
  obtain ⟨⟨h1, h2⟩, h3, h4⟩ := h
  obtain ⟨f, rfl⟩ := Int.eq_ofNat_of_zero_le h1
  obtain ⟨g, rfl⟩ := Int.eq_ofNat_of_zero_le h3
  exact ⟨f, g, rfl, by omega, by omega, rfl, rfl⟩
theorem scansIn_two {s : Int} {a b : S31} (h : scansIn s [a, b] = true) : (inB a.f0 0 (s - 1) = true ∧ inB a.f1 0 300 = true) ∧ inB b.f0 0 (s - 1) = true ∧ inB b.f1 0 300 = true := by
  simp [scansIn, allIn] at h
  exact ⟨⟨h.1.1, h.2.1⟩, h.1.2, h.2.2⟩
theorem scansIn_one {s : Int} {a : S31} (h : scansIn s [a] = true) : inB a.f0 0 (s - 1) = true ∧ inB a.f1 0 300 = true := by
  simp [scansIn, allIn] at h
  exact h
def canGoRes (s t : Int) (l : List S44) (a b : S31) : Bool × Int := coded (codeB (netB s t l) (scansIn s [a, b])) false (arrB t l a.f0.toNat a.f1.toNat b.f0.toNat b.f1.toNat)
set_option maxHeartbeats 4000000 in
set_option maxRecDepth 100000 in
theorem CanGo_any (s t : Int) (A0 : Option Addr) (c : Nat) (l : List S44) (a0 a1 b0 b1 : Int) (w : World) (hr : Kd.C k44 w A0 l.length l) (hc : l.length ≤ c) (hok : okNet s t l = true) (hoa : okScan ⟨a0, a1⟩ = true) (hob : okScan ⟨b0, b1⟩ = true) :
    Calls Try.prog 10 #[.agg #[.int .i8 s, .int .i16 t, .slice A0 l.length c], .agg #[.int .i8 a0, .int .i16 a1], .agg #[.int .i8 b0, .int .i16 b1]] w fun e w' =>
      e = .returned (.tuple #[.bool (canGoRes s t l ⟨a0, a1⟩ ⟨b0, b1⟩).1, .int .i64 (canGoRes s t l ⟨a0, a1⟩ ⟨b0, b1⟩).2]) ∧ Below w.heap.size w w' := by
  have HR := Aside0.mk hr
  have OK := Aside0.mk hok
  have HSC : Aside0 (∀ x ∈ [(⟨a0, a1⟩ : S31), ⟨b0, b1⟩], okScan x = true) := ⟨by simp [hoa, hob]⟩
  clear hr hok hoa hob
  go_enter Try.func10, Try.ntmps10
  go_wp2_with fail
  have HB : Aside0 (Below w.heap.size w (((w.alloc (.cells #[.int .i8 s, .int .i16 t, .slice A0 l.length c] 28)).alloc (.cells #[.int .i8 a0, .int .i16 a1] 31)).alloc (.cells #[.int .i8 b0, .int .i16 b1] 31))) := ⟨(((Below.refl _ _).alloc (Nat.le_refl _) _).alloc (by simp) _).alloc (by simp; omega) _⟩
  refine (scanCode_is s t A0 c l _ _ [⟨a0, a1⟩, ⟨b0, b1⟩] _ (Kd.C_alloc (Kd.C_below HR.out HB.out) _) hc OK.out (two_scans _ _ (by simp) ⟨a0, a1⟩ ⟨b0, b1⟩) (by simp) (by simp) HSC.out).mono ?_
  rintro e w1 ⟨rfl, hb⟩
  obtain ⟨hcl, hf⟩ := bcell hb
  have hb1 : Aside0 (Below w.heap.size w w1) := ⟨(HB.out.alloc (by simp; omega) _).trans (hb.mono (by simp; omega))⟩
  clear hb
  cases h1 : netB s t l with
  | false =>
    have ER : Aside0 (canGoRes s t l ⟨a0, a1⟩ ⟨b0, b1⟩ = (false, 1)) := ⟨by unfold canGoRes; rw [h1]; rfl⟩
    clear h1
    simp only [codeB, Bool.false_eq_true, if_false]
    go_wp2
    go_ret2
    rw [ER.out]
    exact ⟨rfl, hb1.out⟩
  | true =>
    cases h2 : scansIn s [⟨a0, a1⟩, ⟨b0, b1⟩] with
    | false =>
      have ER : Aside0 (canGoRes s t l ⟨a0, a1⟩ ⟨b0, b1⟩ = (false, 2)) := ⟨by unfold canGoRes; rw [h1, h2]; rfl⟩
      clear h1 h2
      simp only [codeB, Bool.false_eq_true, if_false, if_true]
      go_wp2
      go_ret2
      rw [ER.out]
      exact ⟨rfl, hb1.out⟩
    | true =>
      have ER : Aside0 (canGoRes s t l ⟨a0, a1⟩ ⟨b0, b1⟩ = (arrB t l a0.toNat a1.toNat b0.toNat b1.toNat, 0)) := ⟨by unfold canGoRes; rw [h1, h2]; rfl⟩
      obtain ⟨hl, hs1, hs8, ht0, ht1⟩ := laneV_of h1
      obtain ⟨hina, hinb⟩ := scansIn_two h2
      obtain ⟨x0, x1, hx, hx0, hx1, hx2, hx3⟩ := scansIn_nat hs8 hina
      obtain ⟨y0, y1, hy, hy0, hy1, hy2, hy3⟩ := scansIn_nat hs8 hinb
      injection hx with e1 e2
      injection hy with e3 e4
      subst e1 e2 e3 e4
      have HL := Aside0.mk hl
      clear h1 h2 hina hinb hl hx2 hx3 hy2 hy3
      simp only [codeB, if_true]
      go_wp2_with fail
      refine (canGo_is s t A0 c l x0 x1 y0 y1 _ (Kd.C_below HR.out hb1.out) hc HL.out ht0 ht1 hx0 hx1 hy0 hy1).mono ?_
      rintro e w2 ⟨rfl, hb2⟩
      have hb3 : Aside0 (Below w.heap.size w w2) := ⟨hb1.out.trans (hb2.mono hb1.out.size)⟩
      clear hb2
      go_wp2
      go_ret2
      rw [ER.out]
      exact ⟨rfl, hb3.out⟩
def impl_CanGo.f (a0_0 : Int) (a0_1 : Int) (l0_2 : List (S44)) (a1_0 : Int) (a1_1 : Int) (a2_0 : Int) (a2_1 : Int) : Option (Bool × Int) :=
  if okNet a0_0 a0_1 l0_2 = true ∧ okScan ⟨a1_0, a1_1⟩ = true ∧ okScan ⟨a2_0, a2_1⟩ = true then some (canGoRes a0_0 a0_1 l0_2 ⟨a1_0, a1_1⟩ ⟨a2_0, a2_1⟩) else none
theorem impl_CanGo.calls (a0_0 : Int) (a0_1 : Int) (A0_2 : Option Addr) (c0_2 : Nat) (l0_2 : List (S44)) (a1_0 : Int) (a1_1 : Int) (a2_0 : Int) (a2_1 : Int) (r1 : Bool) (r2 : Int) (w : World) (hr0_2 : Kd.C k44 w A0_2 l0_2.length l0_2) (hc0_2 : l0_2.length ≤ c0_2) (h : impl_CanGo.f a0_0 a0_1 l0_2 a1_0 a1_1 a2_0 a2_1 = some (r1, r2)) :
    Calls Try.prog 10 #[.agg #[.int .i8 a0_0, .int .i16 a0_1, .slice A0_2 l0_2.length c0_2], .agg #[.int .i8 a1_0, .int .i16 a1_1], .agg #[.int .i8 a2_0, .int .i16 a2_1]] w fun e w' => e = .returned (.tuple #[.bool r1, .int .i64 r2]) ∧ Below w.heap.size w w' := by
  unfold impl_CanGo.f at h
  split at h
  · injection h with h
    have h1 : (canGoRes a0_0 a0_1 l0_2 ⟨a1_0, a1_1⟩ ⟨a2_0, a2_1⟩).1 = r1 := by rw [h]
    have h2 : (canGoRes a0_0 a0_1 l0_2 ⟨a1_0, a1_1⟩ ⟨a2_0, a2_1⟩).2 = r2 := by rw [h]
    rw [← h1, ← h2]
    rename_i hh
    exact CanGo_any _ _ _ _ _ _ _ _ _ w hr0_2 hc0_2 hh.1 hh.2.1 hh.2.2
  · cases h
end Go.Proofs.Yticfecncdpdanaa.Q
