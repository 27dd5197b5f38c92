/- impl.FewestStamps: the walk, and its contract. -/
import Derived.Test.YtlcnjpibfjhibaaHFewPurse
set_option linter.unusedVariables false
set_option linter.unusedSimpArgs false
namespace Go.Proofs.Ytlcnjpibfjhibaa.Q
open Go.RowKit Go.Proofs.YtlcnjpibfjhibaaW.PrintWords Go.Proofs.YtlcnjpibfjhibaaW.PrintLast Go.Proofs.YtlcnjpibfjhibaaW.PrintMore
open Go.Proofs.Ytlcnjpibfjhibaa.Loops
/-- Valid values, at most 5, as a test. -/
def valsB (vs : List Int) : Bool := decide (1 ≤ vs.length ∧ vs.length ≤ 5) && (vs.all (fun v => decide (1 ≤ v ∧ v ≤ 500)) && (List.range (vs.length - 1)).all (fun i => decide (vs.getD i 0 < vs.getD (i + 1) 0)))
theorem valsB_iff (vs : List Int) : valsB vs = true ↔ Vals vs ∧ vs.length ≤ 5 := by
  unfold valsB
  simp only [Bool.and_eq_true, List.all_eq_true, decide_eq_true_eq, List.mem_range]
  constructor
  · rintro ⟨⟨h1, h2⟩, h3, h4⟩
    exact ⟨⟨h1, by omega, h3, fun i hi => h4 i (by omega)⟩, h2⟩
  · rintro ⟨h, h2⟩
    exact ⟨⟨h.len1, h2⟩, h.mem, fun i hi => h.rise i (by omega)⟩
/-- What FewestStamps answers. -/
def fewS (vs : List Int) (a : Nat) : List Int × Int × Int :=
  if ((tabD vs (List.replicate vs.length 1099511627776) (a + 1) vs.length).getD a z80).f0 = 0 then ([], 0, 6)
  else (cntD (tabD vs (List.replicate vs.length 1099511627776) (a + 1)) vs vs.length (a : Int) ((tabD vs (List.replicate vs.length 1099511627776) (a + 1) vs.length).getD a z80).f1, ((tabD vs (List.replicate vs.length 1099511627776) (a + 1) vs.length).getD a z80).f1, 0)
set_option maxHeartbeats 4000000 in
set_option maxRecDepth 100000 in
theorem fewS_any (A : Option Addr) (c n : Nat) (vs : List Int) (a : Nat) (w : World) (hr : Kd.C (Kd.int .i64) w A n vs) (hc : n ≤ c) (hv : Vals vs) (hn : n ≤ 5) (ha : a ≤ 1000) (r1 : List Int) (r2 r3 : Int) (hres : fewS vs a = (r1, r2, r3)) :
    Calls Try.prog 20 #[.slice A n c, .int .i64 (a : Int)] w fun e w' => ∃ v0 : Value, e = .returned (.tuple #[v0, .int .i64 r2, .int .i64 r3]) ∧ Kd.R (Kd.int .i64) 2 w' w.heap.size (fun _ => True) v0 r1 ∧ Below w.heap.size w w' := by
  have hlv : vs.length = n := hr.1
  have hn1 : 1 ≤ n := by have := hv.len1; omega
  obtain ⟨k, hk⟩ := valuesCode_is hv (a : Int) 1000 (by omega) (by omega)
  have HCODE := impl_valuesCode.calls k A c vs (a : Int) 1000 0 w (by rw [hlv]; exact hr) (by rw [hlv]; exact hc) (hk k (Nat.le_refl _))
  rw [hlv] at HCODE
  obtain ⟨o1, o2, o3, ho⟩ : ∃ o1 o2 o3, fewOut vs (List.replicate n 1099511627776) (a + 1) a = (o1, o2, o3) := ⟨_, _, _, rfl⟩
  have HF := fun W Ah (h1 : Kd.C (Kd.int .i64) W A n vs) (h2 : Kd.C (Kd.int .i64) W Ah n (List.replicate n 1099511627776)) => fewest_any A Ah c n vs (List.replicate n 1099511627776) n a W h1 hc h2 (Nat.le_refl _) hn (by omega) (fun v h => by have := hv.mem v h; omega) (fun h hh => by rw [List.eq_of_mem_replicate hh]; omega) o1 o2 o3 ho
  have hor : (r1, r2, r3) = (o1, o2, if o3 = true then (0 : Int) else 6) ∧ (o3 = false → o1 = [] ∧ o2 = 0) := by
    rw [← hres]
    unfold fewOut at ho
    unfold fewS
    rw [hlv]
    rw [hlv] at ho
    split at ho
    · rename_i hz
      rw [if_pos hz]
      injection ho with q1 q2
      injection q2 with q2 q3
      subst q1 q2 q3
      exact ⟨rfl, fun _ => ⟨rfl, rfl⟩⟩
    · rename_i hz
      rw [if_neg hz]
      injection ho with q1 q2
      injection q2 with q2 q3
      subst q1 q2 q3
      exact ⟨rfl, fun h => by cases h⟩
  obtain ⟨hor, hno⟩ := hor
  injection hor with q1 q2
  injection q2 with q2 q3
  subst q1 q2
  have HR := Aside0.mk hr
  have HCO := Aside0.mk HCODE
  have HFE := Aside0.mk HF
  have HNO := Aside0.mk hno
  have HQ3 := Aside0.mk q3
  clear hr hk HCODE HF hres ho hno q3 hv hlv
  go_enter Try.func20, Try.ntmps20
  go_upto_region 4 with ((go_at_call 36; refine HCO.out.mono ?_; rintro e w1 ⟨rfl, hb1⟩))
  have HB1 := Aside0.mk hb1
  clear hb1
  go_upto_region 5 with (first
    | (go_at_call 50; refine (endless_any A c n hn1 (by omega) hc w1).mono ?_; rintro e w2 ⟨g, rfl, hg, hr2, hb2⟩; have HB2 : Aside0 (Below w.heap.size w w2) := ⟨HB1.out.trans (hb2.mono HB1.out.size)⟩; have HR2 := Aside0.mk hr2; clear hr2 hb2)
    | (go_at_call 51; refine (HFE.out w2 (some ⟨g, 0, none⟩) (Kd.C_below HR.out HB2.out) (HR2.out.C n (by simp) (by omega))).mono ?_; rintro e w3 ⟨v3, rfl, hr3, hb3⟩; have HB3 : Aside0 (Below w.heap.size w w3) := ⟨HB2.out.trans (hb3.mono HB2.out.size)⟩; have HR3 := Aside0.mk hr3; clear hr3 hb3))
  have h2s := HB2.out.size
  cases o3
  · obtain ⟨rfl, rfl⟩ := HNO.out rfl
    have he : r3 = 6 := by rw [HQ3.out]; rfl
    subst he
    clear HQ3
    go_wp2
    go_ret3
    exact ⟨_, rfl, Kd.R_nil _ _ _ _ _, HB3.out⟩
  · have he : r3 = 0 := by rw [HQ3.out]; rfl
    subst he
    clear HQ3
    go_wp2
    go_ret3
    exact ⟨_, rfl, Kd.R_lower HR3.out h2s, HB3.out⟩
def impl_FewestStamps.f (l0 : List Int) (a1 : Int) : Option (List Int × Int × Int) := if valsB l0 = true ∧ 0 ≤ a1 ∧ a1 ≤ 1000 then some (fewS l0 a1.toNat) else none
theorem impl_FewestStamps.calls (A0 : Option Addr) (c0 : Nat) (l0 : List Int) (a1 : Int) (r1 : List Int) (r2 : Int) (r3 : Int) (w : World) (hr0 : Kd.C (Kd.int .i64) w A0 l0.length l0) (hc0 : l0.length ≤ c0) (h : impl_FewestStamps.f l0 a1 = some (r1, r2, r3)) :
    Calls Try.prog 20 #[.slice A0 l0.length c0, .int .i64 a1] w fun e w' => ∃ v0_ : Value, e = .returned (.tuple #[v0_, .int .i64 r2, .int .i64 r3]) ∧ Kd.R (Kd.int .i64) 2 w' w.heap.size (fun _ => True) v0_ r1 ∧ Below w.heap.size w w' := by
  unfold impl_FewestStamps.f at h
  split at h
  · rename_i hh
    injection h with h
    have hv := (valsB_iff l0).1 hh.1
    have := fewS_any A0 c0 l0.length l0 a1.toNat w hr0 hc0 hv.1 hv.2 (by omega) r1 r2 r3 h
    rwa [Int.toNat_of_nonneg hh.2.1] at this
  · cases h
end Go.Proofs.Ytlcnjpibfjhibaa.Q
