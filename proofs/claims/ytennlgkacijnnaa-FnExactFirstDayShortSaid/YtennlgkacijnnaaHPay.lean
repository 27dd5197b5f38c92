/- impl's indices and pay (vouchers), for valid vouchers and amounts that may be. -/
import Derived.Test.YtennlgkacijnnaaHSort
import Derived.Test.YtennlgkacijnnaaHVouch
import Derived.Test.YtennlgkacijnnaaCloneVoucher
import Derived.Deep.RegionHeldLaw
set_option linter.unusedVariables false
set_option linter.unusedSimpArgs false
namespace Go.Proofs.Ytennlgkacijnnaa.Q
open Go.RowKit Go.Proofs.YtennlgkacijnnaaW.PrintWords Go.Proofs.YtennlgkacijnnaaW.PrintLast Go.Proofs.YtennlgkacijnnaaW.PrintMore
open Go.Sort (Holds putRow mapBlock holds_putRow)
attribute [local go_sem] max2_int min2_int max_two min_two
theorem infoI64 : (Try.prog.info? 2).map (fun i => (i.zero, i.size, i.bytes)) = some (some (.int .i64 0), 1, 8) := by kernel_rfl
def idxL (n : Nat) : List Int := (List.range n).map fun (k : Nat) => (k : Int)
theorem idxL_length (n : Nat) : (idxL n).length = n := by simp [idxL]
theorem idxL_succ (n : Nat) : idxL (n + 1) = idxL n ++ [(n : Int)] := by simp [idxL, List.range_succ]
theorem own_empty (W : World) (base : Nat) (e : TypeId) (b : Nat) (hb : b = W.heap.size) (hbase : base ≤ W.heap.size) : (W.alloc (.cells #[] e)).ownsRow base e 1 (.slice (some ⟨b, 0, none⟩) 0 0) ([] : List Int).length (nums .i64 []) := by
  subst hb
  exact own_lit W base e .i64 [] hbase (by simp)
set_option maxHeartbeats 1000000 in
set_option maxRecDepth 100000 in
theorem indices_is (n : Nat) (hn : n ≤ 1048576) (w : World) : Calls Try.prog 106 #[.int .i64 n] w fun e w' => ∃ v : Value, e = .returned v ∧ w'.ownsRow w.heap.size 2 1 v (idxL n).length (nums .i64 (idxL n)) ∧ Below w.heap.size w w' := by
  have HO0 : Aside0 ((w.alloc (.cells #[] 2)).ownsRow w.heap.size 2 1 (.slice (some ⟨w.heap.size, 0, none⟩) 0 0) (idxL 0).length (nums .i64 (idxL 0))) := ⟨own_empty w w.heap.size 2 w.heap.size rfl (Nat.le_refl _)⟩
  have HB0 : Aside0 (Below w.heap.size w (w.alloc (.cells #[] 2))) := ⟨(Below.refl _ _).alloc (Nat.le_refl _) _⟩
  go_enter Try.func106, Try.ntmps106
  go_wp2
  go_loopg [3, 7] n (fun gg v3 v7 wr => ∃ (kk : Nat), kk ≤ n ∧ n - kk ≤ gg ∧ v7 = .int .i64 kk ∧ Aside0 (wr.ownsRow w.heap.size 2 1 v3 (idxL kk).length (nums .i64 (idxL kk))) ∧ Aside0 (Below w.heap.size w wr))
  case atStart => exact ⟨0, by omega, by omega, rfl, HO0, HB0⟩
  case round =>
    obtain ⟨kk, hkk, hgg, rfl, HO, BW⟩ := hrel
    by_cases hlt : kk < n
    · have hltz : (kk : Int) < (n : Int) := by omega
      have hl := idxL_length kk
      go_wp2_with (at_builtin; refine print_append_num (w0 := w) w.heap.size rfl (.tmp 10) (.tmp 12) 58 2 .i64 8 rfl Try.underlying58 infoI64 (by omega) _ (idxL kk) ((kk : Int)) rfl (by go_simp) HO.out BW.out BW.out.size (by omega) ?_; intro v1 w3 hown1 hB1 hg1 hat1)
      rw [← idxL_succ] at hown1
      have HO1 := Aside0.mk hown1
      have HB1 := Aside0.mk hB1
      clear hown1 hB1 hg1 hat1 hl
      go_wp2
      go_roundg (n - (kk + 1))
      case measure => omega
      case rel => exact ⟨kk + 1, by omega, by omega, by go_num, HO1, HB1⟩
    · have hltz : ¬ (kk : Int) < (n : Int) := by omega
      have hk : kk = n := by omega
      subst hk
      go_wp2
      go_ret
      exact ⟨_, rfl, HO.out, BW.out⟩
set_option maxHeartbeats 2000000 in
set_option maxRecDepth 100000 in
/-- The comparison of pay. -/
theorem payCmp_is (B : Nat) (A : Option Addr) (c : Nat) (l : List S87) (a b : Nat) (W : World) (hB : W.cell? ⟨B, 0, none⟩ = some (.slice A l.length c)) (hC : Kd.C k87 W A l.length l) (ha : a < l.length) (hb : b < l.length) (hl : l.length ≤ 1048576) :
    Calls Try.prog 108 #[.int .i64 a, .int .i64 b, .pointer (some ⟨B, 0, none⟩)] W fun e w' => e = .returned (.int .i64 (cmpI (l.getD a z87).f1 (l.getD b z87).f1)) ∧ ∃ q, w' = W.drewN q := by
  obtain ⟨ad, e, hx0, hx1⟩ := at_T87 hC (a : Int) (by omega) (by omega)
  obtain ⟨ad', e', hy0, hy1⟩ := at_T87 hC (b : Int) (by omega) (by omega)
  rw [e] at e'
  injection e' with e'
  subst e' e
  simp only [rd_T87, Int.toNat_natCast] at hx0 hx1 hy0 hy1
  generalize (l.getD a z87).f1 = x at *
  generalize (l.getD b z87).f1 = y at *
  have i1 : (a : Int) < (l.length : Int) := by omega
  have i2 : (b : Int) < (l.length : Int) := by omega
  clear hC hx0 hy0
  go_enter Try.func108, Try.ntmps108
  go_wp2
  go_quiet ((go_at_call 109; exact Calls.quiet_of_same (compare16_is _ _ _)))
  go_wp2
  go_ret
  exact ⟨rfl, _, rfl⟩
/-- The places below n. -/
def idxF (n : Nat) : Array (Fin (n - 1 + 1)) := Array.ofFn fun i : Fin n => ⟨i.val, by omega⟩
theorem idxF_val (n j : Nat) (h : j < n) : ((idxF n)[j]!).val = j := by
  unfold idxF
  rw [getElem!_pos _ j (by simpa using h)]
  simp
theorem idxF_size (n : Nat) : (idxF n).size = n := by simp [idxF]
def cfV (l : List S87) (x y : Fin (l.length - 1 + 1)) : Int := cmpI (l.getD x.val z87).f1 (l.getD y.val z87).f1
/-- The places of vouchers, in the order in which they end. -/
def ordA (l : List S87) : Array (Fin (l.length - 1 + 1)) := Sort.insertionSort (ltF (cfV l)) (idxF l.length) 0 l.length
def ordL (l : List S87) : List Nat := (ordA l).toList.map (·.val)
theorem insInner_size {α : Type} [Inhabited α] (lt : α → α → Bool) (a : Nat) : ∀ (j : Nat) (d : Array α), (Sort.insInner lt a j d).size = d.size
  | 0, d => rfl
  | j + 1, d => by
    rw [Sort.insInner]
    split
    · rw [insInner_size lt a j, Sort.size_swp]
    · rfl
theorem insOuter_size {α : Type} [Inhabited α] (lt : α → α → Bool) (a b : Nat) : ∀ (n i : Nat) (d : Array α), b - i = n → (Sort.insOuter lt a b i d).size = d.size
  | 0, i, d, h => by rw [insOuter_stop _ _ _ _ _ (by omega)]
  | n + 1, i, d, h => by rw [insOuter_go _ _ _ _ _ (by omega), insOuter_size lt a b n (i + 1) _ (by omega), insInner_size]
theorem insertionSort_size {α : Type} [Inhabited α] (lt : α → α → Bool) (d : Array α) (a b : Nat) : (Sort.insertionSort lt d a b).size = d.size := insOuter_size lt a b _ _ d rfl
theorem pw_below_alloc1 {V W : World} {o : Obj} (h : Below V.heap.size V W) : Below V.heap.size V (W.alloc o) := h.alloc h.size o
theorem pw_below_call1 {V W W2 : World} (h : Below V.heap.size V W) (hb : Below W.heap.size W W2) : Below V.heap.size V W2 := h.trans (hb.mono h.size)
theorem ordA_size (l : List S87) : (ordA l).size = l.length := by
  unfold ordA
  have h := (insertionSort_size (ltF (cfV l)) (idxF l.length) 0 l.length)
  rw [h, idxF_size]
/-- One voucher pays. -/
def payStep (day : Int) (s : List S87 × Int) (i : Nat) : List S87 × Int :=
  if day ≤ (s.1.getD i z87).f1 then (s.1.set i ⟨(s.1.getD i z87).f0 - min (s.1.getD i z87).f0 s.2, (s.1.getD i z87).f1⟩, s.2 - min (s.1.getD i z87).f0 s.2) else s
def payRes (l : List S87) (day amount : Int) : List S87 × Int := (ordL l).foldl (payStep day) (l, amount)
/-- What is paid with, in the midst of it. -/
def inPay (n : Nat) (s : List S87 × Int) : Prop := s.1.length = n ∧ 0 ≤ s.2 ∧ s.2 ≤ 1000000 ∧ ∀ x ∈ s.1, 0 ≤ x.f0 ∧ x.f0 ≤ 1000000 ∧ 0 ≤ x.f1 ∧ x.f1 ≤ 1000
theorem inPay_get {n : Nat} {s : List S87 × Int} (h : inPay n s) (i : Nat) (hi : i < n) : 0 ≤ (s.1.getD i z87).f0 ∧ (s.1.getD i z87).f0 ≤ 1000000 ∧ 0 ≤ (s.1.getD i z87).f1 ∧ (s.1.getD i z87).f1 ≤ 1000 :=
  h.2.2.2 _ (by rw [List.getD_eq_getElem?_getD, List.getElem?_eq_getElem (by rw [h.1]; exact hi)]; exact List.getElem_mem _)
theorem inPay_step {n : Nat} {s : List S87 × Int} (h : inPay n s) (day : Int) (i : Nat) (hi : i < n) : inPay n (payStep day s i) := by
  unfold payStep
  have hg := inPay_get h i hi
  split
  · refine ⟨by rw [List.length_set]; exact h.1, by have := h.2.1; omega, by have := h.2.2.1; have := h.2.1; omega, fun x hx => ?_⟩
    rcases List.mem_or_eq_of_mem_set hx with hx | rfl
    · exact h.2.2.2 x hx
    · have := h.2.1
      simp only
      omega
  · exact h
theorem payCut_A {l : List S87} {w14 w17 : World} {B Bx n : Nat} {v14 v17 : Value} {xs : List Int} (hB : B ≤ Bx) (hB2 : B ≤ w14.heap.size) (hO14 : Kd.R k87 87 w14 Bx (fun _ => True) v14 l) (hO17 : w17.ownsRow w14.heap.size 2 1 v17 n (nums .i64 xs)) (hb17 : Below w14.heap.size w14 w17) :
    Kd.R k87 87 w17 B (fun _ => True) v14 l ∧ w17.ownsRow B 2 1 v17 n (nums .i64 xs) ∧ ∀ k, v17.ownBlock = some k → some k ≠ v14.ownBlock := by
  refine ⟨Kd.R_mono (Kd.R_lower (Kd.R_below hO14 hb17) hB) (fun _ _ => trivial), own_less hO17 hB2, fun k hk => ?_⟩
  have h1 := (hO17.lt k hk).1
  have := Kd.R_ne_new hO14 (k - w14.heap.size)
  rwa [show w14.heap.size + (k - w14.heap.size) = k by omega] at this
theorem payCut_B {l : List S87} {w14 w17 : World} {B By n : Nat} {v14 v17 : Value} {xs : List Int} (hB : B ≤ By) (hB2 : B ≤ w17.heap.size) (hO14 : Kd.R k87 87 w14 w17.heap.size (fun _ => True) v14 l) (hO17 : w17.ownsRow By 2 1 v17 n (nums .i64 xs)) (hb14 : Below w17.heap.size w17 w14) :
    Kd.R k87 87 w14 B (fun _ => True) v14 l ∧ w14.ownsRow B 2 1 v17 n (nums .i64 xs) ∧ ∀ k, v17.ownBlock = some k → some k ≠ v14.ownBlock := by
  refine ⟨Kd.R_lower hO14 hB2, pw_own_below (own_less hO17 hB) hb14, fun k hk => ?_⟩
  have h1 := (hO17.lt k hk).2
  rcases Kd.R_base2 hO14 with h | ⟨j, h, hj⟩
  · rw [h]; simp
  · rw [h]
    intro e
    injection e with e
    omega
theorem holds_idx {n : Nat} {W : World} {g : Nat} {cur : Array Value} {T : TypeId} (hh : W.heap[g]? = some (.cells cur T (0, 0))) (ht : cur.toList.take (n * 1) = nums .i64 (idxL n)) : Holds encF W g 0 (idxF n) := by
  intro j hj
  have hj' : j < n := by rwa [idxF_size] at hj
  rw [Nat.zero_add]
  refine ⟨?_, frozen_of_row W g j _ _ hh⟩
  rw [cell_of_row W g j cur T (0, 0) hh]
  have h1 : cur[j]? = (nums .i64 (idxL n))[j]? := by
    rw [← ht, List.getElem?_take, if_pos (by omega), Array.getElem?_toList]
  rw [h1]
  unfold encF
  rw [idxF_val n j hj']
  simp [nums, idxL, hj']
theorem putRow_grown {α : Type} [Inhabited α] (enc : α → Value) (w : World) (b off : Nat) (d : Array α) (q : Nat) : w.grownBy ((putRow enc w b off d).drewN q) (some b) := by
  refine ⟨rfl, rfl, rfl, ?_, fun k hk hne => ?_⟩
  · show _ ≤ (putRow enc w b off d).heap.size
    unfold putRow mapBlock
    simp
  · show (putRow enc w b off d).heap[k]? = _
    unfold putRow mapBlock
    simp only [Array.getElem?_modify]
    rw [if_neg (by intro e; exact hne (by rw [e]))]
set_option maxHeartbeats 1000000 in
set_option maxRecDepth 100000 in
theorem stable_none (g : Nat) (cb : Array Value) (A : Option Addr) (c : Nat) (w : World) :
    Calls Try.prog 107 #[.slice A 0 c, .func (.func g) #[] cb] w fun e w' => e = .returned (.tuple #[]) ∧ w = w' := by
  have K0 : Calls Try.prog 120 #[.slice A 0 c, .int .i64 0, .int .i64 0, .func (.func g) #[] cb] w fun e w' => e = .returned (.tuple #[]) ∧ w = w' := by
    go_enter Try.func120, Try.ntmps120
    go_wp2
    go_loopg [8] 0 (fun gg v8 wr => v8 = .int .i64 1 ∧ wr = w)
    case atStart => exact ⟨rfl, rfl⟩
    case round =>
      obtain ⟨rfl, rfl⟩ := hrel
      go_wp2
      go_end0
      exact ⟨rfl, rfl⟩
  have K : Calls Try.prog 116 #[.slice A 0 c, .int .i64 0, .func (.func g) #[] cb] w fun e w' => e = .returned (.tuple #[]) ∧ w = w' := by
    go_enter Try.func116, Try.ntmps116
    go_wp2
    go_loopg [7, 8] 0 (fun gg v7 v8 wr => v7 = .int .i64 0 ∧ v8 = .int .i64 20 ∧ wr = w)
    case atStart => exact ⟨rfl, rfl, rfl⟩
    case round =>
      obtain ⟨rfl, rfl, rfl⟩ := hrel
      go_wp2_with fail
      refine K0.mono ?_
      rintro e w2 ⟨rfl, rfl⟩
      go_wp2
      go_loopg [6] 0 (fun gg v6 wr2 => v6 = .int .i64 20 ∧ wr2 = wr)
      case atStart => exact ⟨rfl, rfl⟩
      case round =>
        obtain ⟨rfl, rfl⟩ := hrel
        go_wp2
        go_end0
        exact ⟨rfl, rfl⟩
  go_enter Try.func107, Try.ntmps107
  go_wp2_with fail
  refine K.mono ?_
  rintro e w2 ⟨rfl, rfl⟩
  go_wp2
  go_end0
  exact ⟨rfl, rfl⟩
theorem ordL_length (l : List S87) : (ordL l).length = l.length := by
  unfold ordL
  rw [List.length_map, Array.length_toList, ordA_size]
theorem ordL_get (l : List S87) (j : Nat) (hj : j < l.length) : (ordL l).getD j 0 = ((ordA l)[j]!).val := by
  have h : j < (ordA l).size := by rw [ordA_size]; exact hj
  rw [getElem!_pos _ j h, ordL, List.getD_eq_getElem?_getD, List.getElem?_map, Array.getElem?_toList, Array.getElem?_eq_getElem h]
  rfl
theorem ordL_lt (l : List S87) (j : Nat) (hj : j < l.length) : (ordL l).getD j 0 < l.length := by
  rw [ordL_get l j hj]
  have := ((ordA l)[j]!).isLt
  omega
set_option maxHeartbeats 4000000 in
set_option maxRecDepth 100000 in
theorem pay_any (A : Option Addr) (c : Nat) (l : List S87) (day amount : Int) (w : World) (hr : Kd.C k87 w A l.length l) (hc : l.length ≤ c) (hl : l.length ≤ 12) (hin : inPay l.length (l, amount)) :
    Calls Try.prog 92 #[.slice A l.length c, .int .i64 day, .int .i64 amount] w fun e w' => ∃ v : Value, e = .returned (.tuple #[v, .int .i64 (payRes l day amount).2]) ∧ Kd.R k87 87 w' w.heap.size (fun _ => True) v (payRes l day amount).1 ∧ Below w.heap.size w w' := by
  have HR := Aside0.mk hr
  have HI := Aside0.mk hin
  clear hr hin
  go_enter Try.func92, Try.ntmps92
  go_wp2_with fail
  obtain ⟨V, hV⟩ : ∃ V, V = w.alloc (.cells #[.slice A l.length c] 33) := ⟨_, rfl⟩
  have HBW : Aside0 (Below w.heap.size w V) := ⟨by rw [hV]; exact (Below.refl _ _).alloc (Nat.le_refl _) _⟩
  have hzV : Aside0 (V.heap.size = w.heap.size + 1) := ⟨by rw [hV]; simp⟩
  have q0 : V.cell? ⟨w.heap.size, 0, none⟩ = some (.slice A l.length c) := by rw [hV]; go_simp
  rw [← hV]
  clear hV
  have HRV := Aside0.mk (Kd.C_below HR.out HBW.out)
  go_cut [8, 9] from 13 to 17 (fun v8 v9 wx => Aside0 (Kd.R k87 87 wx V.heap.size (fun _ => True) v8 l) ∧ Aside0 (wx.ownsRow V.heap.size 2 1 v9 (idxL l.length).length (nums .i64 (idxL l.length))) ∧ Aside0 (Below V.heap.size V wx) ∧ Aside0 (∀ k, v9.ownBlock = some k → some k ≠ v8.ownBlock))
  case first =>
    have hbr : Below V.heap.size V V := Below.refl _ _
    go_region_held_law (fun w' => w'.cell? ⟨w.heap.size, 0, none⟩ = some (.slice A l.length c) ∧ Below V.heap.size V w')
      (((try go_split_ands); refine (fun (h : Below V.heap.size V _) => ⟨pw_cell_below h q0, h⟩) ?_; first | ((repeat (with_reducible first | assumption | apply Below.drew | apply pw_below_alloc1)); done) | exact pw_below_call1 (by repeat (with_reducible first | assumption | apply Below.drew | apply pw_below_alloc1)) hb14 | exact pw_below_call1 (by repeat (with_reducible first | assumption | apply Below.drew | apply pw_below_alloc1)) hb17))
      (first
        | (go_at_call 105; refine (clone_Voucher A c l _ (Kd.C_below HRV.out (by go_split_ands; repeat (with_reducible first | assumption | apply Below.drew | apply pw_below_alloc1))) hc (by omega)).mono ?_; rintro e w14 ⟨v14, rfl, hO14, hb14⟩)
        | (go_at_call 106; refine (indices_is l.length (by omega) _).mono ?_; rintro e w17 ⟨v17, rfl, hO17, hb17⟩))
    all_goals
      go_wp2_with fail
      go_meet
      go_split_ands
      have z1 := hb14.size
      have z2 := hb17.size
      simp at z1 z2
      first
        | (have hbf : Below V.heap.size V w17 := (by assumption); obtain ⟨e1, e2, e3⟩ := payCut_A (B := V.heap.size) (by first | exact Nat.le_refl _ | (simp; omega)) (by omega) hO14 hO17 hb17; exact ⟨⟨e1⟩, ⟨e2⟩, ⟨hbf⟩, ⟨e3⟩⟩)
        | (have hbf : Below V.heap.size V w14 := (by assumption); obtain ⟨e1, e2, e3⟩ := payCut_B (B := V.heap.size) (by first | exact Nat.le_refl _ | (simp; omega)) (by omega) hO14 hO17 hb14; exact ⟨⟨e1⟩, ⟨e2⟩, ⟨hbf⟩, ⟨e3⟩⟩)
        | trace_state
  case rest =>
    obtain ⟨HO8, HO9, HX, HNE⟩ := hcut
    have Q0 := Aside0.mk q0
    clear q0
    have hb1 : Aside0 (Below w.heap.size w wc) := ⟨HBW.out.trans (HX.out.mono HBW.out.size)⟩
    have hil := idxL_length l.length
    by_cases hl0 : l.length = 0
    · have hn : l = [] := List.length_eq_zero_iff.1 hl0
      have hv : ∃ A9 c9, u9 = .slice A9 0 c9 := by
        rcases HO9.out.2 with ⟨h, _⟩ | ⟨g, cap, cur, h, _⟩
        · exact ⟨_, _, h⟩
        · exact ⟨_, _, by rw [h, hil, hl0]⟩
      obtain ⟨A9, c9, rfl⟩ := hv
      have ER : Aside0 (payRes l day amount = (l, amount)) := ⟨by unfold payRes; rw [show ordL l = [] from List.length_eq_zero_iff.1 (by rw [ordL_length, hl0])]; rfl⟩
      clear hil hn hl0
      go_wp2_with fail
      refine (stable_none _ _ A9 c9 _).mono ?_
      rintro e w2 ⟨rfl, rfl⟩
      go_wp2
      go_loopg [2, 23] 0 (fun gg v2 v23 wr => v2 = .int .i64 amount ∧ v23 = .int .i64 0 ∧ wr = wc)
      case atStart => exact ⟨rfl, rfl, rfl⟩
      case round =>
        obtain ⟨rfl, rfl, rfl⟩ := hrel
        go_wp2
        go_ret2
        rw [ER.out]
        exact ⟨_, rfl, Kd.R_lower HO8.out (by have := hzV.out; omega), hb1.out⟩
    · have hv : ∃ g9 c9, u9 = .slice (some ⟨g9, 0, none⟩) l.length c9 ∧ V.heap.size ≤ g9 ∧ Holds encF wc g9 0 (idxF l.length) := by
        rcases HO9.out.2 with ⟨_, h⟩ | ⟨g, cap, cur, h, hb, hh, _, _, _, ht⟩
        · rw [hil] at h; exact absurd h hl0
        · refine ⟨g, cap, by rw [h, hil], hb, holds_idx hh ?_⟩
          rw [← ht, hil]
      obtain ⟨g9, c9, rfl, hg9, hH9⟩ := hv
      obtain ⟨g8, c8, e8, hg8b, hg8, cells8, hcells8⟩ := Kd.R_form HO8.out (by omega)
      subst e8
      have hne : g8 ≠ g9 := fun e => HNE.out g9 rfl (by rw [e]; rfl)
      have HH9 := Aside0.mk hH9
      have HCM : Aside0 (CmpF 108 #[.pointer (some ⟨w.heap.size, 0, none⟩)] (cfV l) g9 (idxF l.length).size wc) := ⟨by
        intro m X hX h0 x y
        have hbx : Below V.heap.size V ((putRow encF wc g9 0 X).drewN m) := pw_below_drewN (below_putRow encF HX.out hg9 0 X) m
        exact payCmp_is w.heap.size A c l x.val y.val _ (pw_cell_below hbx Q0.out) (Kd.C_below HRV.out hbx) (by have := x.isLt; omega) (by have := y.isLt; omega) (by omega)⟩
      have hds : (idxF l.length).size = l.length := idxF_size _
      have HDS := Aside0.mk hds
      have eg := enters_of Try.func108 (by kernel_rfl) rfl
      clear hcells8 cells8 hH9 hds hil
      have HS := Aside0.mk (stable_small (cfV l) 108 #[.pointer (some ⟨w.heap.size, 0, none⟩)] g9 c9 _ wc eg HCM.out HH9.out (by rw [HDS.out]; omega))
      rw [HDS.out] at HS
      go_wp2_with fail
      refine HS.out.mono ?_
      rintro e w2 ⟨rfl, q, hw2⟩
      rw [show Sort.insertionSort (ltF (cfV l)) (idxF l.length) 0 l.length = ordA l from rfl] at hw2
      have hgr := putRow_grown encF wc g9 0 (ordA l) q
      rw [← hw2] at hgr
      have HR2 : Aside0 (Kd.R k87 87 w2 V.heap.size (fun _ => True) (.slice (some ⟨g8, 0, none⟩) l.length c8) l) := ⟨Kd.R_grown1 HO8.out rfl hgr (by simp [Value.ownBlock]; omega)⟩
      have HX2 : Aside0 (Below V.heap.size V w2) := ⟨by rw [hw2]; exact pw_below_drewN (below_putRow encF HX.out hg9 0 _) q⟩
      have HC9 : Aside0 (∀ j, j < l.length → w2.cell? ⟨g9, j, none⟩ = some (.int .i64 (((ordL l).getD j 0 : Nat) : Int))) := ⟨fun j hj => by
        have := (holds_putRow encF wc g9 0 _ (ordA l) HH9.out (by rw [HDS.out, ordA_size]) j (by rw [ordA_size]; exact hj)).1
        rw [Nat.zero_add] at this
        rw [hw2, ordL_get l j hj]
        exact this⟩
      clear hw2 hgr
      go_wp2
      go_loopg [2, 23] l.length (fun gg v2 v23 wr => ∃ (k : Nat) (s : List S87 × Int), k ≤ l.length ∧ l.length - k ≤ gg ∧ v23 = .int .i64 k ∧ v2 = .int .i64 s.2 ∧ Aside0 (inPay l.length s) ∧ Aside0 (Kd.R k87 87 wr V.heap.size (fun _ => True) (.slice (some ⟨g8, 0, none⟩) l.length c8) s.1) ∧ Aside0 (Below V.heap.size V wr) ∧ Aside0 (∀ j, j < l.length → wr.cell? ⟨g9, j, none⟩ = some (.int .i64 (((ordL l).getD j 0 : Nat) : Int))) ∧ Aside0 (((ordL l).drop k).foldl (payStep day) s = payRes l day amount))
      case atStart => exact ⟨0, (l, amount), by omega, by omega, rfl, rfl, HI, HR2, HX2, HC9, ⟨rfl⟩⟩
      case round =>
        obtain ⟨k, ⟨o, am⟩, hk, hgg, rfl, rfl, HIP, HO, BW, HC, HA⟩ := hrel
        have BW0 : Aside0 (Below w.heap.size w wr) := ⟨HBW.out.trans (BW.out.mono HBW.out.size)⟩
        by_cases hlt : k < l.length
        · have hltz : (k : Int) < (l.length : Int) := by omega
          have hc9 := HC.out k hlt
          have hi := ordL_lt l k hlt
          have hd := drop_cons_of (ordL l) 0 k (by rw [ordL_length]; exact hlt)
          have HD : Aside0 (((ordL l).drop (k + 1)).foldl (payStep day) (payStep day (o, am) ((ordL l).getD k 0)) = payRes l day amount) := ⟨by rw [← HA.out, hd]; rfl⟩
          clear hd HA
          generalize (ordL l).getD k 0 = i at hc9 hi HD
          have HIP2 := Aside0.mk (inPay_step HIP.out day i hi)
          have hol : o.length = l.length := HIP.out.1
          obtain ⟨p0, p1, p2, p3⟩ := inPay_get HIP.out i hi
          have am0 : 0 ≤ am := HIP.out.2.1
          have am1 : am ≤ 1000000 := HIP.out.2.2.1
          have hiz : (i : Int) < (l.length : Int) := by omega
          obtain ⟨ce, hcl, hM, hcc, hfr⟩ := Kd.R_elem HO.out z87 (i : Int) (by omega) (by omega)
          obtain rfl := k87_openM hM
          rw [Int.toNat_natCast] at hcc hfr
          have hy0 : wr.cell? ⟨g8, i * 2, none⟩ = some (.int .i32 (o.getD i z87).f0) := hcc 0 _ rfl
          have hy1 : wr.cell? ⟨g8, i * 2 + 1, none⟩ = some (.int .i16 (o.getD i z87).f1) := hcc 1 _ rfl
          have hf0 : wr.frozen? ⟨g8, i * 2, none⟩ = false := hfr 0
          have CE := Aside0.mk hcl
          have CC := Aside0.mk hcc
          have hst : payStep day (o, am) i = if day ≤ (o.getD i z87).f1 then (o.set i ⟨(o.getD i z87).f0 - min (o.getD i z87).f0 am, (o.getD i z87).f1⟩, am - min (o.getD i z87).f0 am) else (o, am) := rfl
          have HST := Aside0.mk hst
          clear hcl hM hcc hfr hst hol
          obtain ⟨a, ha⟩ : ∃ a, a = (o.getD i z87).f0 := ⟨_, rfl⟩
          obtain ⟨u, hu⟩ : ∃ u, u = (o.getD i z87).f1 := ⟨_, rfl⟩
          rw [← ha, ← hu] at HST
          rw [← ha] at hy0 p0 p1
          rw [← hu] at hy1 p2 p3
          have HAA := Aside0.mk ha
          have HUU := Aside0.mk hu
          clear ha hu
          by_cases hday : day ≤ u
          · obtain ⟨mu, hmu⟩ : ∃ mu, mu = min a am := ⟨_, rfl⟩
            have hm0 : 0 ≤ mu := by omega
            have hm1 : mu ≤ a := by omega
            have hm2 : mu ≤ am := by omega
            have hmi : (if am < a then am else a) = mu := by rw [hmu]; split <;> omega
            have i1 : IntKind.i32.wrap mu = mu := by rw [IntKind.wrap_i32]; omega
            have i2 : IntKind.i32.wrap (a - mu) = a - mu := by rw [IntKind.wrap_i32]; omega
            have HS2 : Aside0 (payStep day (o, am) i = (o.set i ⟨a - mu, u⟩, am - mu)) := ⟨by rw [HST.out, if_pos hday, ← hmu]⟩
            rw [HS2.out] at HD HIP2
            have HSG := Aside0.mk (Kd.R_seg HO.out (i : Int) (by omega) (by omega) (seg := [.int .i32 (a - mu)]) (j := 0) CE.out CC.out (show 1 ≤ 2 from by decide) (x' := ⟨a - mu, u⟩) (okp := fun _ => False) (by rw [HUU.out]; exact k87_mkM _ _ (fun _ => False) ⟨a - mu, _⟩) (fun _ h => h.elim))
            rw [Int.toNat_natCast] at HSG
            have H9C : Aside0 (∀ j, j < l.length → (wr.setCell ⟨g8, i * 2, none⟩ (.int .i32 (a - mu))).cell? ⟨g9, j, none⟩ = some (.int .i64 (((ordL l).getD j 0 : Nat) : Int))) := ⟨fun j hj => (cell_far (p := ⟨g8, i * 2, none⟩) (a := ⟨g9, j, none⟩) (fun e => hne e.symm) _).trans (HC.out j hj)⟩
            clear hmu
            go_wp2
            go_roundg (l.length - (k + 1))
            case measure => omega
            case rel => exact ⟨k + 1, (o.set i ⟨a - mu, u⟩, am - mu), by omega, by omega, by go_num, rfl, HIP2, ⟨HSG.out.1⟩, ⟨BW.out.setCell hg8b _⟩, H9C, HD⟩
          · have hdz : ¬ day ≤ u := hday
            rw [HST.out, if_neg hday] at HD HIP2
            go_wp2
            go_roundg (l.length - (k + 1))
            case measure => omega
            case rel => exact ⟨k + 1, (o, am), by omega, by omega, by go_num, rfl, HIP2, HO, BW, HC, HD⟩
        · have hltz : ¬ (k : Int) < (l.length : Int) := by omega
          have HF : Aside0 ((o, am) = payRes l day amount) := ⟨by rw [← HA.out, List.drop_of_length_le (by rw [ordL_length]; omega)]; rfl⟩
          go_wp2
          go_ret2
          rw [← HF.out]
          exact ⟨_, rfl, Kd.R_lower HO.out (by have := hzV.out; omega), BW0.out⟩
theorem vouchers_in {l : List S87} {am : Int} (h : (vouchersB l && inB am 0 1000000) = true) : l.length ≤ 12 ∧ inPay l.length (l, am) := by
  rw [Bool.and_eq_true] at h
  obtain ⟨h1, h2⟩ := h
  simp only [vouchersB, Bool.and_eq_true, decide_eq_true_eq, Bool.not_eq_true', List.any_eq_false] at h1
  rw [inB_true] at h2
  refine ⟨by omega, rfl, h2.1, h2.2, fun x hx => ?_⟩
  have := h1.2 x hx
  simp only [voucherBad, Bool.or_eq_true, Bool.not_eq_true', not_or, Bool.not_eq_false, inB_true] at this
  omega
def impl_pay.f (l0 : List (S87)) (a1 : Int) (a2 : Int) : Option ((List (S87)) × Int) := if (vouchersB l0 && inB a2 0 1000000) = true then some (payRes l0 a1 a2) else none
theorem impl_pay.calls (A0 : Option Addr) (c0 : Nat) (l0 : List (S87)) (a1 : Int) (a2 : Int) (r1 : List (S87)) (r2 : Int) (w : World) (hr0 : Kd.C k87 w A0 l0.length l0) (hc0 : l0.length ≤ c0) (h : impl_pay.f l0 a1 a2 = some (r1, r2)) :
    Calls Try.prog 92 #[.slice A0 l0.length c0, .int .i64 a1, .int .i64 a2] w fun e w' => ∃ v0_ : Value, e = .returned (.tuple #[v0_, .int .i64 r2]) ∧ Kd.R k87 87 w' w.heap.size (fun _ => True) v0_ r1 ∧ Below w.heap.size w w' := by
  unfold impl_pay.f at h
  split at h
  · rename_i hh
    injection h with h
    have h1 : (payRes l0 a1 a2).1 = r1 := by rw [h]
    have h2 : (payRes l0 a1 a2).2 = r2 := by rw [h]
    rw [← h1, ← h2]
    obtain ⟨g1, g2⟩ := vouchers_in hh
    exact pay_any A0 c0 l0 a1 a2 w hr0 hc0 g1 g2
  · cases h
end Go.Proofs.Ytennlgkacijnnaa.Q
