/- impl.canGo, CanGo. -/
import Derived.Test.YtgchiepnodoohaaHScans
set_option linter.unusedVariables false
set_option linter.unusedSimpArgs false
namespace Go.Proofs.Ytgchiepnodoohaa.Q
open Go.RowKit Go.Proofs.YtgchiepnodoohaaW.PrintWords Go.Proofs.YtgchiepnodoohaaW.PrintLast Go.Proofs.YtgchiepnodoohaaW.PrintMore
instance (t m n : Int) (h k : Nat) : Decidable (goes t m n h k) := by unfold goes; infer_instance
/-- Whether there is such an arrival; n: no more lanes than that. -/
def arrN (t : Int) (l : List S82) (a0 h0 : Nat) : Nat → Nat → Nat → Bool
  | 0, _, _ => false
  | n + 1, s, h => l.any fun x => decide (x.f1.toNat = s) && ((decide (x.f0.toNat = a0) && decide (goes t x.f2 x.f3 h0 h)) || (List.range h).any fun k => arrN t l a0 h0 n x.f0.toNat k && decide (goes t x.f2 x.f3 k h))
theorem arrN_sound {t : Int} {l : List S82} {a0 h0 : Nat} : ∀ (n s h : Nat), arrN t l a0 h0 n s h = true → Arr t l a0 h0 s h
  | 0, s, h, e => by simp [arrN] at e
  | n + 1, s, h, e => by
    simp only [arrN, List.any_eq_true, Bool.and_eq_true, Bool.or_eq_true, decide_eq_true_eq] at e
    obtain ⟨x, hx, rfl, ⟨h1, h2⟩ | ⟨k, _, h1, h2⟩⟩ := e
    · exact .first x hx h h1 h2
    · exact .more x hx k h (arrN_sound n _ _ h1) h2
theorem arrN_found {t : Int} {l : List S82} {a0 h0 : Nat} (hl : ∀ x ∈ l, laneV x) {s h : Nat} (e : Arr t l a0 h0 s h) : ∀ n, h < n → arrN t l a0 h0 n s h = true := by
  induction e with
  | first x hx k hf hg =>
    intro n hn
    obtain ⟨m, rfl⟩ : ∃ m, n = m + 1 := ⟨n - 1, by omega⟩
    simp only [arrN, List.any_eq_true, Bool.and_eq_true, Bool.or_eq_true, decide_eq_true_eq]
    exact ⟨x, hx, rfl, .inl ⟨hf, hg⟩⟩
  | more x hx k k' hp hg ih =>
    intro n hn
    obtain ⟨m, rfl⟩ : ∃ m, n = m + 1 := ⟨n - 1, by omega⟩
    have hv := hl x hx
    obtain ⟨v0, v1, v2, v3, v4, _⟩ := hv
    have hlt : k < k' := by
      have := hg
      unfold goes at this
      omega
    simp only [arrN, List.any_eq_true, Bool.and_eq_true, Bool.or_eq_true, decide_eq_true_eq]
    exact ⟨x, hx, rfl, .inr ⟨k, List.mem_range.2 hlt, ih m (by omega), hg⟩⟩
@[irreducible] def arrB (t : Int) (l : List S82) (a0 h0 s h : Nat) : Bool := arrN t l a0 h0 (h + 1) s h
theorem arrB_iff {t : Int} {l : List S82} (hl : ∀ x ∈ l, laneV x) (a0 h0 s h : Nat) : arrB t l a0 h0 s h = true ↔ Arr t l a0 h0 s h := by
  unfold arrB
  exact ⟨arrN_sound _ _ _, fun e => arrN_found hl e _ (by omega)⟩
theorem arrB_eq {t : Int} {l : List S82} (hl : ∀ x ∈ l, laneV x) {a0 h0 : Nat} {N : List Bool} (hN : ArrT t l a0 h0 N) {s h : Nat} (hs : s < 8) (hh : h < 301) : gat N s h = arrB t l a0 h0 s h := by
  have h1 := hN s h hs hh
  rw [← arrB_iff hl] at h1
  cases h2 : gat N s h with
  | true => exact (h1.1 h2).symm
  | false =>
    cases h3 : arrB t l a0 h0 s h with
    | false => rfl
    | true => rw [h1.2 h3] at h2; exact h2.symm
set_option maxHeartbeats 4000000 in
set_option maxRecDepth 100000 in
theorem canGo_is (s t : Int) (A0 : Option Addr) (c : Nat) (l : List S82) (a0 h0 b0 h1 : Nat) (w : World) (hr : Kd.C k82 w A0 l.length l) (hc : l.length ≤ c) (hl : ∀ x ∈ l, laneV x) (ht0 : 0 ≤ t) (ht1 : t ≤ 40) (ha : a0 < 8) (hh : h0 < 301) (hb : b0 < 8) (hh1 : h1 < 301) :
    Calls Try.prog 70 #[.agg #[.int .i8 s, .int .i16 t, .slice A0 l.length c], .agg #[.int .i8 a0, .int .i16 h0], .agg #[.int .i8 b0, .int .i16 h1]] w fun e w' =>
      e = .returned (.bool (arrB t l a0 h0 b0 h1)) ∧ Below w.heap.size w w' := by
  have HR := Aside0.mk hr
  have HL := Aside0.mk hl
  clear hr hl
  go_enter Try.func70, Try.ntmps70
  go_wp2
  have hbz : (b0 : Int) < 8 := by omega
  have hhz : (h1 : Int) < 301 := by omega
  have HB : Aside0 (Below w.heap.size w (((w.alloc (.cells #[.int .i8 s, .int .i16 t, .slice A0 l.length c] 31)).alloc (.cells #[.int .i8 a0, .int .i16 h0] 47)).alloc (.cells #[.int .i8 b0, .int .i16 h1] 47))) := ⟨(((Below.refl _ _).alloc (Nat.le_refl _) _).alloc (by simp) _).alloc (by simp; omega) _⟩
  have q0 : (((w.alloc (.cells #[.int .i8 s, .int .i16 t, .slice A0 l.length c] 31)).alloc (.cells #[.int .i8 a0, .int .i16 h0] 47)).alloc (.cells #[.int .i8 b0, .int .i16 h1] 47)).cell? ⟨w.heap.size, 0, none⟩ = some (.int .i8 s) := by go_simp
  have q1 : (((w.alloc (.cells #[.int .i8 s, .int .i16 t, .slice A0 l.length c] 31)).alloc (.cells #[.int .i8 a0, .int .i16 h0] 47)).alloc (.cells #[.int .i8 b0, .int .i16 h1] 47)).cell? ⟨w.heap.size, 1, none⟩ = some (.int .i16 t) := by go_simp
  have q2 : (((w.alloc (.cells #[.int .i8 s, .int .i16 t, .slice A0 l.length c] 31)).alloc (.cells #[.int .i8 a0, .int .i16 h0] 47)).alloc (.cells #[.int .i8 b0, .int .i16 h1] 47)).cell? ⟨w.heap.size, 2, none⟩ = some (.slice A0 l.length c) := by go_simp
  have q3 : (((w.alloc (.cells #[.int .i8 s, .int .i16 t, .slice A0 l.length c] 31)).alloc (.cells #[.int .i8 a0, .int .i16 h0] 47)).alloc (.cells #[.int .i8 b0, .int .i16 h1] 47)).cell? ⟨w.heap.size + 1, 0, none⟩ = some (.int .i8 (a0 : Int)) := by go_simp
  have q4 : (((w.alloc (.cells #[.int .i8 s, .int .i16 t, .slice A0 l.length c] 31)).alloc (.cells #[.int .i8 a0, .int .i16 h0] 47)).alloc (.cells #[.int .i8 b0, .int .i16 h1] 47)).cell? ⟨w.heap.size + 1, 1, none⟩ = some (.int .i16 (h0 : Int)) := by go_simp
  have q5 : (((w.alloc (.cells #[.int .i8 s, .int .i16 t, .slice A0 l.length c] 31)).alloc (.cells #[.int .i8 a0, .int .i16 h0] 47)).alloc (.cells #[.int .i8 b0, .int .i16 h1] 47)).cell? ⟨w.heap.size + 1 + 1, 0, none⟩ = some (.int .i8 (b0 : Int)) := by go_simp
  have q6 : (((w.alloc (.cells #[.int .i8 s, .int .i16 t, .slice A0 l.length c] 31)).alloc (.cells #[.int .i8 a0, .int .i16 h0] 47)).alloc (.cells #[.int .i8 b0, .int .i16 h1] 47)).cell? ⟨w.heap.size + 1 + 1, 1, none⟩ = some (.int .i16 (h1 : Int)) := by go_simp
  have hz : (((w.alloc (.cells #[.int .i8 s, .int .i16 t, .slice A0 l.length c] 31)).alloc (.cells #[.int .i8 a0, .int .i16 h0] 47)).alloc (.cells #[.int .i8 b0, .int .i16 h1] 47)).heap.size = w.heap.size + 1 + 1 + 1 := by simp
  generalize ((w.alloc (.cells #[.int .i8 s, .int .i16 t, .slice A0 l.length c] 31)).alloc (.cells #[.int .i8 a0, .int .i16 h0] 47)).alloc (.cells #[.int .i8 b0, .int .i16 h1] 47) = W at *
  have HZ := Aside0.mk hz
  clear hz
  go_region_held_law (fun w' => w'.cell? ⟨w.heap.size, 0, none⟩ = some (.int .i8 s) ∧ w'.cell? ⟨w.heap.size, 1, none⟩ = some (.int .i16 t) ∧ w'.cell? ⟨w.heap.size, 2, none⟩ = some (.slice A0 l.length c) ∧ w'.cell? ⟨w.heap.size + 1, 0, none⟩ = some (.int .i8 (a0 : Int)) ∧ w'.cell? ⟨w.heap.size + 1, 1, none⟩ = some (.int .i16 (h0 : Int)) ∧ w'.cell? ⟨w.heap.size + 1 + 1, 0, none⟩ = some (.int .i8 (b0 : Int)) ∧ w'.cell? ⟨w.heap.size + 1 + 1, 1, none⟩ = some (.int .i16 (h1 : Int)))
    (first | go_keep | (go_split_ands; refine ⟨?_, ?_, ?_, ?_, ?_, ?_, ?_⟩ <;> (rw [hb2.cell (by have := HZ.out; simp; omega)]; assumption)))
    ((go_at_call 73; refine (all_is s t A0 c l a0 h0 _ (by first | exact Kd.C_below HR.out HB.out | exact Kd.C_drew (Kd.C_below HR.out HB.out)) hc HL.out ht0 ht1 ha hh).mono ?_; rintro e w1 ⟨N, lN, hN, rfl, hb2⟩; have hix := fun w => run_indexT .i8 N lN b0 hb w; have hiy := fun w => run_indexH .i16 ((N.drop (b0 * 301)).take 301) (part_length N (b0 * 301) 301 (by omega)) h1 hh1 w))
  have HE : Aside0 (N[b0 * 301 + h1]?.getD false = arrB t l a0 h0 b0 h1) := ⟨by rw [← arrB_eq HL.out hN hb hh1]; unfold gat; rw [List.getD_eq_getElem?_getD]⟩
  have HB2 : Aside0 (Below w.heap.size w w1) := ⟨by first | exact HB.out.trans (hb2.mono (by have := HZ.out; omega)) | exact HB.out.drew.trans (hb2.mono (by have := HZ.out; simp; omega))⟩
  clear hb2 q0 q1 q2 q3 q4 q5 q6 hN
  go_wp2
  go_ret
  refine ⟨?_, HB2.out⟩
  rw [HE.out]
  rfl
/-- Two scans, just boxed. -/
theorem two_scans (w : World) (B : Nat) (hB : B = w.heap.size) (x y : S47) : Kd.C k47 (w.alloc (.cells #[.int .i8 x.f0, .int .i16 x.f1, .int .i8 y.f0, .int .i16 y.f1] 47)) (some ⟨B, 0, none⟩) [x, y].length [x, y] := by
  subst hB
  refine ⟨rfl, by simp, fun _ => ⟨_, rfl, fun j p hj => ⟨[.int .i8 p.f0, .int .i16 p.f1], rfl, k47_mk _ p, fun i u hu => ?_⟩⟩⟩
  have hsz : k47.sz = 2 := rfl
  rw [hsz]
  match j, i, hj, hu with
  | 0, 0, hj, hu => simp at hj hu; subst hj hu; go_simp
  | 0, 1, hj, hu => simp at hj hu; subst hj hu; go_simp
  | 1, 0, hj, hu => simp at hj hu; subst hj hu; go_simp
  | 1, 1, hj, hu => simp at hj hu; subst hj hu; go_simp
  | 0, i + 2, hj, hu => simp at hu
  | 1, i + 2, hj, hu => simp at hu
  | j + 2, _, hj, hu => simp at hj
theorem one_scan (w : World) (B : Nat) (hB : B = w.heap.size) (x : S47) : Kd.C k47 (w.alloc (.cells #[.int .i8 x.f0, .int .i16 x.f1] 47)) (some ⟨B, 0, none⟩) [x].length [x] := by
  subst hB
  refine ⟨rfl, by simp, fun _ => ⟨_, rfl, fun j p hj => ⟨[.int .i8 p.f0, .int .i16 p.f1], rfl, k47_mk _ p, fun i u hu => ?_⟩⟩⟩
  have hsz : k47.sz = 2 := rfl
  rw [hsz]
  match j, i, hj, hu with
  | 0, 0, hj, hu => simp at hj hu; subst hj hu; go_simp
  | 0, 1, hj, hu => simp at hj hu; subst hj hu; go_simp
  | 0, i + 2, hj, hu => simp at hu
  | j + 1, _, hj, hu => simp at hj
/-- A valid net's lanes. -/
theorem laneV_of {s t : Int} {l : List S82} (h : netB s t l = true) : (∀ x ∈ l, laneV x) ∧ 1 ≤ s ∧ s ≤ 8 ∧ 0 ≤ t ∧ t ≤ 40 := by
  simp only [netB, inB, Bool.and_eq_true, decide_eq_true_eq, Bool.not_eq_true', List.any_eq_false] at h
  obtain ⟨⟨h1, h2⟩, ⟨h3, h4⟩, h5, h6⟩ := h
  refine ⟨fun x hx => ?_, h1, h2, h3, h4⟩
  have := h6 x hx
  simp only [laneBad, inB, Bool.or_eq_true, Bool.and_eq_true, Bool.not_eq_true', decide_eq_true_eq, decide_eq_false_iff_not, Bool.and_eq_false_iff, beq_iff_eq] at this
  unfold laneV
  omega
theorem scansIn_nat {s : Int} {a : S47} (hs : s ≤ 8) (h : inB a.f0 0 (s - 1) = true ∧ inB a.f1 0 300 = true) : ∃ a0 h0 : Nat, a = ⟨a0, h0⟩ ∧ a0 < 8 ∧ h0 < 301 ∧ a.f0.toNat = a0 ∧ a.f1.toNat = h0 := by
  obtain ⟨f, g⟩ := a
  simp only [inB_true] at h
  obtain ⟨⟨h1, h2⟩, h3, h4⟩ := h
  obtain ⟨f, rfl⟩ := Int.eq_ofNat_of_zero_le h1
  obtain ⟨g, rfl⟩ := Int.eq_ofNat_of_zero_le h3
  exact ⟨f, g, rfl, by omega, by omega, rfl, rfl⟩
theorem scansIn_two {s : Int} {a b : S47} (h : scansIn s [a, b] = true) : (inB a.f0 0 (s - 1) = true ∧ inB a.f1 0 300 = true) ∧ inB b.f0 0 (s - 1) = true ∧ inB b.f1 0 300 = true := by
  simp [scansIn, allIn] at h
  exact ⟨⟨h.1.1, h.2.1⟩, h.1.2, h.2.2⟩
theorem scansIn_one {s : Int} {a : S47} (h : scansIn s [a] = true) : inB a.f0 0 (s - 1) = true ∧ inB a.f1 0 300 = true := by
  simp [scansIn, allIn] at h
  exact h
def canGoRes (s t : Int) (l : List S82) (a b : S47) : Bool × Int := coded (codeB (netB s t l) (scansIn s [a, b])) false (arrB t l a.f0.toNat a.f1.toNat b.f0.toNat b.f1.toNat)
set_option maxHeartbeats 4000000 in
set_option maxRecDepth 100000 in
theorem CanGo_any (s t : Int) (A0 : Option Addr) (c : Nat) (l : List S82) (a0 a1 b0 b1 : Int) (w : World) (hr : Kd.C k82 w A0 l.length l) (hc : l.length ≤ c) (hok : okNet s t l = true) (hoa : okScan ⟨a0, a1⟩ = true) (hob : okScan ⟨b0, b1⟩ = true) :
    Calls Try.prog 30 #[.agg #[.int .i8 s, .int .i16 t, .slice A0 l.length c], .agg #[.int .i8 a0, .int .i16 a1], .agg #[.int .i8 b0, .int .i16 b1]] w fun e w' =>
      e = .returned (.tuple #[.bool (canGoRes s t l ⟨a0, a1⟩ ⟨b0, b1⟩).1, .int .i64 (canGoRes s t l ⟨a0, a1⟩ ⟨b0, b1⟩).2]) ∧ Below w.heap.size w w' := by
  have HR := Aside0.mk hr
  have OK := Aside0.mk hok
  have HSC : Aside0 (∀ x ∈ [(⟨a0, a1⟩ : S47), ⟨b0, b1⟩], okScan x = true) := ⟨by simp [hoa, hob]⟩
  clear hr hok hoa hob
  go_enter Try.func30, Try.ntmps30
  go_wp2_with fail
  have HB : Aside0 (Below w.heap.size w (((w.alloc (.cells #[.int .i8 s, .int .i16 t, .slice A0 l.length c] 31)).alloc (.cells #[.int .i8 a0, .int .i16 a1] 47)).alloc (.cells #[.int .i8 b0, .int .i16 b1] 47))) := ⟨(((Below.refl _ _).alloc (Nat.le_refl _) _).alloc (by simp) _).alloc (by simp; omega) _⟩
  refine (scanCode_is s t A0 c l _ _ [⟨a0, a1⟩, ⟨b0, b1⟩] _ (Kd.C_alloc (Kd.C_below HR.out HB.out) _) hc OK.out (two_scans _ _ (by simp) ⟨a0, a1⟩ ⟨b0, b1⟩) (by simp) (by simp) HSC.out).mono ?_
  rintro e w1 ⟨rfl, hb⟩
  obtain ⟨hcl, hf⟩ := bcell hb
  have hb1 : Aside0 (Below w.heap.size w w1) := ⟨(HB.out.alloc (by simp; omega) _).trans (hb.mono (by simp; omega))⟩
  clear hb
  cases h1 : netB s t l with
  | false =>
    have ER : Aside0 (canGoRes s t l ⟨a0, a1⟩ ⟨b0, b1⟩ = (false, 1)) := ⟨by unfold canGoRes; rw [h1]; rfl⟩
    clear h1
    simp only [codeB, Bool.false_eq_true, if_false]
    go_wp2
    go_ret2
    rw [ER.out]
    exact ⟨rfl, hb1.out⟩
  | true =>
    cases h2 : scansIn s [⟨a0, a1⟩, ⟨b0, b1⟩] with
    | false =>
      have ER : Aside0 (canGoRes s t l ⟨a0, a1⟩ ⟨b0, b1⟩ = (false, 2)) := ⟨by unfold canGoRes; rw [h1, h2]; rfl⟩
      clear h1 h2
      simp only [codeB, Bool.false_eq_true, if_false, if_true]
      go_wp2
      go_ret2
      rw [ER.out]
      exact ⟨rfl, hb1.out⟩
    | true =>
      have ER : Aside0 (canGoRes s t l ⟨a0, a1⟩ ⟨b0, b1⟩ = (arrB t l a0.toNat a1.toNat b0.toNat b1.toNat, 0)) := ⟨by unfold canGoRes; rw [h1, h2]; rfl⟩
      obtain ⟨hl, hs1, hs8, ht0, ht1⟩ := laneV_of h1
      obtain ⟨hina, hinb⟩ := scansIn_two h2
      obtain ⟨x0, x1, hx, hx0, hx1, hx2, hx3⟩ := scansIn_nat hs8 hina
      obtain ⟨y0, y1, hy, hy0, hy1, hy2, hy3⟩ := scansIn_nat hs8 hinb
      injection hx with e1 e2
      injection hy with e3 e4
      subst e1 e2 e3 e4
      have HL := Aside0.mk hl
      clear h1 h2 hina hinb hl hx2 hx3 hy2 hy3
      simp only [codeB, if_true]
      go_wp2_with fail
      refine (canGo_is s t A0 c l x0 x1 y0 y1 _ (Kd.C_below HR.out hb1.out) hc HL.out ht0 ht1 hx0 hx1 hy0 hy1).mono ?_
      rintro e w2 ⟨rfl, hb2⟩
      have hb3 : Aside0 (Below w.heap.size w w2) := ⟨hb1.out.trans (hb2.mono hb1.out.size)⟩
      clear hb2
      go_wp2
      go_ret2
      rw [ER.out]
      exact ⟨rfl, hb3.out⟩
def impl_CanGo.f (a0_0 : Int) (a0_1 : Int) (l0_2 : List (S82)) (a1_0 : Int) (a1_1 : Int) (a2_0 : Int) (a2_1 : Int) : Option (Bool × Int) :=
  if okNet a0_0 a0_1 l0_2 = true ∧ okScan ⟨a1_0, a1_1⟩ = true ∧ okScan ⟨a2_0, a2_1⟩ = true then some (canGoRes a0_0 a0_1 l0_2 ⟨a1_0, a1_1⟩ ⟨a2_0, a2_1⟩) else none
theorem impl_CanGo.calls (a0_0 : Int) (a0_1 : Int) (A0_2 : Option Addr) (c0_2 : Nat) (l0_2 : List (S82)) (a1_0 : Int) (a1_1 : Int) (a2_0 : Int) (a2_1 : Int) (r1 : Bool) (r2 : Int) (w : World) (hr0_2 : Kd.C k82 w A0_2 l0_2.length l0_2) (hc0_2 : l0_2.length ≤ c0_2) (h : impl_CanGo.f a0_0 a0_1 l0_2 a1_0 a1_1 a2_0 a2_1 = some (r1, r2)) :
    Calls Try.prog 30 #[.agg #[.int .i8 a0_0, .int .i16 a0_1, .slice A0_2 l0_2.length c0_2], .agg #[.int .i8 a1_0, .int .i16 a1_1], .agg #[.int .i8 a2_0, .int .i16 a2_1]] w fun e w' => e = .returned (.tuple #[.bool r1, .int .i64 r2]) ∧ Below w.heap.size w w' := by
  unfold impl_CanGo.f at h
  split at h
  · injection h with h
    have h1 : (canGoRes a0_0 a0_1 l0_2 ⟨a1_0, a1_1⟩ ⟨a2_0, a2_1⟩).1 = r1 := by rw [h]
    have h2 : (canGoRes a0_0 a0_1 l0_2 ⟨a1_0, a1_1⟩ ⟨a2_0, a2_1⟩).2 = r2 := by rw [h]
    rw [← h1, ← h2]
    rename_i hh
    exact CanGo_any _ _ _ _ _ _ _ _ _ w hr0_2 hc0_2 hh.1 hh.2.1 hh.2.2
  · cases h
end Go.Proofs.Ytgchiepnodoohaa.Q
