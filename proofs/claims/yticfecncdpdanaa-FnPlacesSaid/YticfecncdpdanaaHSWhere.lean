/- spec's WhereAt. -/
import Derived.Test.YticfecncdpdanaaMB
set_option linter.unusedVariables false
set_option linter.unusedSimpArgs false
namespace Go.Proofs.Yticfecncdpdanaa.Q
open Go.RowKit Go.Proofs.YticfecncdpdanaaW.PrintWords Go.Proofs.YticfecncdpdanaaW.PrintLast Go.Proofs.YticfecncdpdanaaW.PrintMore
theorem l00Max_is (a b : Int) (w : World) : Calls Try.prog 40 #[.int .i64 a, .int .i64 b] w fun e w' => e = .returned (.int .i64 (max a b)) ∧ w = w' := by
  by_cases h : b < a
  · have hm : Aside0 (max a b = a) := ⟨by omega⟩
    go_enter Try.func40, Try.ntmps40
    go_wp2
    go_ret
    exact ⟨by rw [hm.out]; rfl, rfl⟩
  · have hm : Aside0 (max a b = b) := ⟨by omega⟩
    go_enter Try.func40, Try.ntmps40
    go_wp2
    go_ret
    exact ⟨by rw [hm.out]; rfl, rfl⟩
theorem l00Min_is (a b : Int) (w : World) : Calls Try.prog 41 #[.int .i64 a, .int .i64 b] w fun e w' => e = .returned (.int .i64 (min a b)) ∧ w = w' := by
  by_cases h : a < b
  · have hm : Aside0 (min a b = a) := ⟨by omega⟩
    go_enter Try.func41, Try.ntmps41
    go_wp2
    go_ret
    exact ⟨by rw [hm.out]; rfl, rfl⟩
  · have hm : Aside0 (min a b = b) := ⟨by omega⟩
    go_enter Try.func41, Try.ntmps41
    go_wp2
    go_ret
    exact ⟨by rw [hm.out]; rfl, rfl⟩
section
variable {k : IntKind} {e : TypeId} {base : Nat} {w0 w w1 : World} {v v' : Value} {xs ys : List Int}
theorem Two.call (HT : Two k e base w0 w v v' xs ys) (hb : Below w.heap.size w w1) : Two k e base w0 w1 v v' xs ys := ⟨pw_own_below HT.l hb, pw_own_below HT.r hb, HT.ne, HT.below.trans (hb.mono HT.size), Nat.le_trans HT.size hb.size⟩
theorem Two.drewN (HT : Two k e base w0 w v v' xs ys) (m : Nat) : Two k e base w0 (w.drewN m) v v' xs ys := HT.call (pw_below_drewN (Below.refl _ _) m)
theorem Two.only {b : Nat} (HT : Two k e base w0 w v v' xs ys) (ho : Only b w w1) (hb : base ≤ b) (h1 : v.ownBlock ≠ some b) (h2 : v'.ownBlock ≠ some b) : Two k e base w0 w1 v v' xs ys := by
  have hg : w.grownBy w1 (some b) := ⟨ho.os, ho.tape, ho.output, Nat.le_of_eq ho.size.symm, fun j hj hne => ho.block j (fun e => hne (by rw [e]))⟩
  exact ⟨HT.l.kept hg (.inr h1), HT.r.kept hg (.inr h2), HT.ne, HT.below.trans (ho.below hb), Nat.le_trans HT.size hg.size⟩
end
theorem own_ne {v v1 : Value} {gb n : Nat} (h : v.ownBlock ≠ some gb) (hat : v1.ownBlock = v.ownBlock ∨ ∃ b, v1.ownBlock = some b ∧ n ≤ b) (hg : gb < n) : v1.ownBlock ≠ some gb := by
  rcases hat with h1 | ⟨b, h1, hb⟩
  · rw [h1]
    exact h
  · rw [h1]
    intro h2
    injection h2 with h2
    omega
theorem someH_eq {p : Nat → Bool} {lo hi : Int} (h0 : hi ≤ 300) (R : Bool) (h : R = decide (0 ≤ firstH p (hi + 1 - max 0 lo).toNat (max 0 lo).toNat)) : someH p lo hi = R := by
  rw [h]
  unfold someH
  rw [show min hi 300 = hi by omega, show max lo 0 = max 0 lo by omega]
theorem lane_on {p : Nat → Bool} (t n : Int) (hour : Nat) (ht : 0 ≤ t) (hh : hour ≤ 300) : decide (0 ≤ firstH (fun h => p h && decide (max (h : Int) ((hour : Int) - n + 1) ≤ min ((h : Int) + t) ((hour : Int) - 1))) hour 0) = (decide (1 < n) && someH p ((hour : Int) - n + 1 - t) ((hour : Int) - 1)) := by
  have e : ∀ b c : Bool, (b = true ↔ c = true) → b = c := by intro b c; cases b <;> cases c <;> simp
  apply e
  unfold someH
  simp only [Bool.and_eq_true, decide_eq_true_eq, fH_iff]
  constructor
  · rintro ⟨h, h1, h2, h3, h4⟩
    exact ⟨by omega, h, by omega, by omega, h3⟩
  · rintro ⟨hn, h, h1, h2, h3⟩
    exact ⟨h, by omega, by omega, h3, by omega⟩
attribute [local go_sem] zcT zcH noHours_length setRow_alloc_at setRow_alloc_past bcells_set bcells_size List.length_set
set_option maxHeartbeats 4000000 in
set_option maxRecDepth 100000 in
theorem sWhereAt_any (s t : Int) (A : Option Addr) (c : Nat) (l : List S44) (a0 a1 hour : Int) (w : World) (hr : Kd.C k44 w A l.length l) (hc : l.length ≤ c) (hok : okNet s t l = true) (hoa : okScan ⟨a0, a1⟩ = true) :
    Calls Try.prog 9 #[.agg #[.int .i8 s, .int .i16 t, .slice A l.length c], .agg #[.int .i8 a0, .int .i16 a1], .int .i64 hour] w fun e w' => ∃ v0_ v1_ : Value, e = .returned (.tuple #[v0_, v1_, .int .i64 (whereRes s t l ⟨a0, a1⟩ hour).2.2]) ∧ Kd.R (Kd.int .i64) 2 w' w.heap.size (fun k_ => some k_ ≠ (v1_ : Value).ownBlock) v0_ (whereRes s t l ⟨a0, a1⟩ hour).1 ∧ Kd.R (Kd.int .i64) 2 w' w.heap.size (fun k_ => some k_ ≠ (v0_ : Value).ownBlock) v1_ (whereRes s t l ⟨a0, a1⟩ hour).2.1 ∧ Below w.heap.size w w' := by
  have HN := Aside0.mk (NetAt.new (s := s) (t := t) hr hc 28)
  have HR := Aside0.mk hr
  have OK := Aside0.mk hok
  have HOA := Aside0.mk hoa
  clear hr hok hoa
  go_enter Try.func9, Try.ntmps9
  go_wp2_with fail
  obtain ⟨U, hU⟩ : ∃ U, U = (w.alloc (.cells #[.int .i8 s, .int .i16 t, .slice A l.length c] 28)).alloc (.cells #[.int .i8 a0, .int .i16 a1] 31) := ⟨_, rfl⟩
  have HU : Aside0 (Below w.heap.size w U) := ⟨by rw [hU]; exact ((Below.refl _ _).alloc (Nat.le_refl _) _).alloc (by simp) _⟩
  have hzU : Aside0 (U.heap.size = w.heap.size + 1 + 1) := ⟨by rw [hU]; simp⟩
  have q0 : Aside0 (U.cell? ⟨w.heap.size, 0, none⟩ = some (.int .i8 s)) := ⟨by rw [hU]; go_simp⟩
  have q1 : Aside0 (U.cell? ⟨w.heap.size, 1, none⟩ = some (.int .i16 t)) := ⟨by rw [hU]; go_simp⟩
  have q2 : Aside0 (U.cell? ⟨w.heap.size, 2, none⟩ = some (.slice A l.length c)) := ⟨by rw [hU]; go_simp⟩
  have q3 : Aside0 (U.cell? ⟨w.heap.size + 1, 0, none⟩ = some (.int .i8 a0)) := ⟨by rw [hU]; go_simp⟩
  have q4 : Aside0 (U.cell? ⟨w.heap.size + 1, 1, none⟩ = some (.int .i16 a1)) := ⟨by rw [hU]; go_simp⟩
  have HN := Aside0.mk (HN.out.alloc (.cells #[.int .i8 a0, .int .i16 a1] 31))
  rw [← hU] at HN ⊢
  clear hU
  have HRU := Aside0.mk (Kd.C_below HR.out HU.out)
  have T0 := Aside0.mk (Two.start U)
  rw [hzU.out] at T0
  have HN0 := Aside0.mk ((HN.out.alloc (.cells #[] 2)).alloc (.cells #[] 2))
  try rw [hzU.out]
  generalize (U.alloc (.cells #[] 2)).alloc (.cells #[] 2) = V at *
  refine (l07Scan_at HN0.out OK.out a0 a1 HOA.out).mono ?_
  rintro e w1 ⟨rfl, hb⟩
  have T1 := Aside0.mk (T0.out.call hb)
  have HN1 := Aside0.mk (HN0.out.below hb)
  clear hb T0
  have HAS : ∀ b : Bool, b = (scanIn s ⟨a0, a1⟩ && inB hour 0 300) → Calls Try.prog 36 #[.pointer (some ⟨w.heap.size, 0, none⟩), .bool b] w1 fun e w' => e = .returned (.int .i64 (codeB (netB s t l) (scanIn s ⟨a0, a1⟩ && inB hour 0 300))) ∧ Below w1.heap.size w1 w' := fun b hb => by rw [← hb]; exact l07Asked_at HN1.out OK.out b
  have HAS := Aside0.mk HAS
  have ENE : Aside0 (codeB (netB s t l) (scanIn s ⟨a0, a1⟩ && inB hour 0 300) ≠ 0 → whereRes s t l ⟨a0, a1⟩ hour = ([], [], codeB (netB s t l) (scanIn s ⟨a0, a1⟩ && inB hour 0 300))) := ⟨fun h => by unfold whereRes; rw [if_neg h]⟩
  have EEQ : Aside0 (codeB (netB s t l) (scanIn s ⟨a0, a1⟩ && inB hour 0 300) = 0 → whereRes s t l ⟨a0, a1⟩ hour = (selL (statB t l a0.toNat a1.toNat hour) s.toNat, selL (laneB t l a0.toNat a1.toNat hour) l.length, 0)) := ⟨fun h => by unfold whereRes; rw [if_pos h]⟩
  cases h1 : scanIn s ⟨a0, a1⟩ with
  | false =>
    have hne : codeB (netB s t l) (scanIn s ⟨a0, a1⟩ && inB hour 0 300) ≠ 0 := by rw [h1]; cases netB s t l <;> simp [codeB]
    have ER := Aside0.mk (ENE.out hne)
    have HC5 := HAS.out false (by rw [h1]; rfl)
    clear h1 ENE EEQ HAS
    generalize codeB (netB s t l) (scanIn s ⟨a0, a1⟩ && inB hour 0 300) = cd at *
    have hnb : (cd != 0) = true := by simp [hne]
    have HC5 := Aside0.mk HC5
    clear hne
    go_wp2_with fail
    refine HC5.out.mono ?_
    rintro e w5 ⟨rfl, hb5⟩
    have T5 := Aside0.mk (T1.out.call hb5)
    clear hb5 HC5
    go_wp2
    go_ret3
    rw [ER.out]
    exact ⟨_, _, rfl, Kd.R_lower (Kd.R_of_own T5.out.l (fun j hj h2 => T5.out.ne j hj h2.symm)) (by omega), Kd.R_lower (Kd.R_of_own T5.out.r (fun j hj h2 => T5.out.ne j h2.symm hj)) (by omega), HU.out.trans (T5.out.below.mono (by omega))⟩
  | true =>
    have HSI := Aside0.mk h1
    have HC5 := Aside0.mk (HAS.out (inB hour 0 300) (by rw [h1]; rfl))
    clear h1 HAS
    go_wp2_with fail
    refine (l07Hour_is hour _).mono ?_
    rintro e w' ⟨rfl, rfl⟩
    go_wp2_with fail
    refine HC5.out.mono ?_
    rintro e w5 ⟨rfl, hb5⟩
    have T5 := Aside0.mk (T1.out.call hb5)
    have HN5 := Aside0.mk (HN1.out.below hb5)
    clear hb5 HC5 T1 HN1 HN0
    by_cases hcd : codeB (netB s t l) (scanIn s ⟨a0, a1⟩ && inB hour 0 300) = 0
    · have ER := Aside0.mk (EEQ.out hcd)
      have hnet : netB s t l = true := by
        cases h : netB s t l with
        | true => rfl
        | false => rw [h] at hcd; simp [codeB] at hcd
      have hho : inB hour 0 300 = true := by
        cases h : inB hour 0 300 with
        | true => rfl
        | false => rw [hnet, h] at hcd; simp [codeB] at hcd
      rw [hcd]
      clear hcd ENE EEQ
      obtain ⟨hl, hs1, hs8, ht0, ht1⟩ := laneV_of hnet
      have hlen := netB_len hnet
      have hina := HSI.out
      unfold scanIn at hina
      rw [Bool.and_eq_true] at hina
      obtain ⟨x0, x1, hx, hx0, hx1, hx2, hx3⟩ := scansIn_nat hs8 hina
      injection hx with e1 e2
      subst e1 e2
      have HL := Aside0.mk hl
      obtain ⟨hho0, hho1⟩ := inB_true.1 hho
      obtain ⟨hour, rfl⟩ := Int.eq_ofNat_of_zero_le hho0
      obtain ⟨sn, rfl⟩ := Int.eq_ofNat_of_zero_le (show 0 ≤ s by omega)
      simp only [Int.toNat_natCast] at ER
      have hx0z : (x0 : Int) < 8 := by omega
      have hx1z : (x1 : Int) < 301 := by omega
      have hzu := hzU.out
      have d3 := (T5.out.below.cell (p := ⟨w.heap.size + 1, 0, none⟩) (by simp)).trans q3.out
      have d4 := (T5.out.below.cell (p := ⟨w.heap.size + 1, 1, none⟩) (by simp)).trans q4.out
      clear hnet hina hho hl hx2 hx3 hho0 HSI
      go_wp2_with fail
      refine (l07Behind_is x0 x1 (-1) _ HN5.out HL.out hlen ht0 ht1 hx0 hx1 (by omega) (by omega)).mono ?_
      rintro e w6 ⟨gb, hgb, G, lG, hRG, hG, rfl, hb6⟩
      rw [but_none HL.out] at hG
      have HTM : Aside0 (∀ s h, s < 8 → h < 301 → (G.set (x0 * 301 + x1) true).getD (s * 301 + h) false = tmB t l x0 x1 s h) := ⟨fun s h hs hh => tm_of_row lG HL.out hG hx0 hx1 s h hs hh⟩
      have T6 := Aside0.mk (T5.out.call hb6)
      have hgb2 : Aside0 (w.heap.size + 1 + 1 + 1 + 1 ≤ gb) := ⟨by
        have h1 := T5.out.l.lt
        have h2 := T5.out.r.lt (w.heap.size + 1 + 1 + 1) rfl
        omega⟩
      have d3 := (T6.out.below.cell (p := ⟨w.heap.size + 1, 0, none⟩) (by simp)).trans q3.out
      have d4 := (T6.out.below.cell (p := ⟨w.heap.size + 1, 1, none⟩) (by simp)).trans q4.out
      have hfr := hRG.frozen (x0 * 301 + x1)
      have hce := hRG.cell (x0 * 301 + x1) (by omega)
      have HRG6 := Aside0.mk hRG
      clear hb6 hG hRG hgb
      go_wp2
      go_cut [12] from 37 to 44 (fun v12 wx => v12 = .pointer (some ⟨gb, 0, none⟩) ∧ Aside0 (RowAt wx gb 109 (G.set (x0 * 301 + x1) true)) ∧ Aside0 (Two .i64 2 (w.heap.size + 1 + 1) U wx (.slice (some ⟨w.heap.size + 1 + 1, 0, none⟩) 0 0) (.slice (some ⟨w.heap.size + 1 + 1 + 1, 0, none⟩) 0 0) [] []))
      case first =>
        go_region
        all_goals
          go_wp2_with fail
          go_meet
          exact ⟨rfl, ⟨(HRG6.out.set (x0 * 301 + x1) true).drew⟩, ⟨(T6.out.only ((Only.refl _ _).setCell _ _) (by have := hgb2.out; omega) (by have := hgb2.out; simp [Value.ownBlock]; omega) (by have := hgb2.out; simp [Value.ownBlock]; omega)).drew⟩⟩
      case rest =>
        obtain ⟨rfl, HRG, HT⟩ := hcut
        have lG2 : (G.set (x0 * 301 + x1) true).length = 2408 := by rw [List.length_set]; exact lG
        generalize G.set (x0 * 301 + x1) true = G2 at *
        clear d3 d4 hfr hce HRG6 T6 T5
        have hgl : Aside0 (gb < wc.heap.size) := ⟨HRG.out.lt⟩
        have hn2 : (.slice (some ⟨w.heap.size + 1 + 1 + 1, 0, none⟩) 0 0 : Value).ownBlock ≠ some gb := by have := hgb2.out; simp [Value.ownBlock]; omega
        have hn1 : (.slice (some ⟨w.heap.size + 1 + 1, 0, none⟩) 0 0 : Value).ownBlock ≠ some gb := by have := hgb2.out; simp [Value.ownBlock]; omega
        have HN1 := Aside0.mk hn1
        have HN2 := Aside0.mk hn2
        clear hn1 hn2
        have e1 : IntKind.i64.wrap t = t := IntWalk.i64_in _ (by omega)
        have e2 : IntKind.i64.wrap ((hour : Int) - t) = (hour : Int) - t := IntWalk.i64_in _ (by omega)
        have e0 : IntKind.i64.wrap (sn : Int) = (sn : Int) := IntWalk.i64_in _ (by omega)
        go_wp2
        go_loopg [9, 13] sn (fun gg v9 v13 wr => ∃ (kk : Nat), kk ≤ sn ∧ sn - kk ≤ gg ∧ v13 = .int .i64 kk ∧ Aside0 (Two .i64 2 (w.heap.size + 1 + 1) U wr v9 (.slice (some ⟨w.heap.size + 1 + 1 + 1, 0, none⟩) 0 0) (selL (statB t l x0 x1 hour) kk) []) ∧ Aside0 (RowAt wr gb 109 G2) ∧ Aside0 (v9.ownBlock ≠ some gb))
        case atStart => exact ⟨0, Nat.zero_le _, by omega, rfl, HT, HRG, HN1⟩
        case round =>
          obtain ⟨kk, hkk, hgg, rfl, HT, HRG, HNB⟩ := hrel
          have f0 := (HT.out.below.cell (p := ⟨w.heap.size, 0, none⟩) (by simp; omega)).trans q0.out
          have f1 := (HT.out.below.cell (p := ⟨w.heap.size, 1, none⟩) (by simp; omega)).trans q1.out
          by_cases hlt : kk < sn
          · have hltz : (kk : Int) < (sn : Int) := by omega
            have hk8 : kk < 8 := by omega
            have hk8z : (kk : Int) < 8 := by omega
            have HSS := Aside0.mk (selL_succ (statB t l x0 x1 hour) kk)
            have hsl := selL_length (statB t l x0 x1 hour) kk
            obtain ⟨p, hp⟩ : ∃ p : Nat → Bool, p = tmB t l x0 x1 kk := ⟨_, rfl⟩
            have HP : Aside0 (∀ h, h < 301 → G2.getD (kk * 301 + h) false = p h) := ⟨fun h hh => by rw [hp]; exact HTM.out kk h hk8 hh⟩
            obtain ⟨a, ha⟩ : ∃ a : Nat, (a : Int) = max 0 ((hour : Int) - t) := ⟨(max 0 ((hour : Int) - t)).toNat, by omega⟩
            obtain ⟨n, hn⟩ : ∃ n : Nat, n = ((hour : Int) + 1 - max 0 ((hour : Int) - t)).toNat := ⟨_, rfl⟩
            have hna : n + a = hour + 1 := by omega
            obtain ⟨R, hR⟩ : ∃ R, R = decide (0 ≤ firstH p n a) := ⟨_, rfl⟩
            have ESB : Aside0 (statB t l x0 x1 hour kk = R) := ⟨by
              unfold statB
              rw [← hp]
              exact someH_eq (by omega) R (by rw [hR, hn, ← ha, Int.toNat_natCast])⟩
            have HRR := Aside0.mk hR
            have HAA := Aside0.mk ha
            clear hn hp ha hR
            go_wp2_with fail
            refine (l00Max_is _ _ _).mono ?_
            rintro e w7 ⟨rfl, rfl⟩
            rw [← HAA.out]
            go_wp2
            obtain ⟨wo, hwo⟩ : ∃ wo : World, wo = wr := ⟨_, rfl⟩
            subst hwo
            go_loopg [14, 15] n (fun gg v14 v15 wq => ∃ (k j : Nat) (b : Bool), k ≤ n ∧ n - k ≤ gg ∧ Aside0 (j = a + k) ∧ v15 = .int .i64 j ∧ v14 = .bool b ∧ Aside0 ((b || decide (0 ≤ firstH p (n - k) j)) = R) ∧ wq = wo)
            case atStart => exact ⟨0, a, false, by omega, by omega, ⟨rfl⟩, rfl, rfl, ⟨by rw [HRR.out]; rfl⟩, rfl⟩
            case round =>
              obtain ⟨k, j, b, hk, hg2, HJ, rfl, rfl, HA, rfl⟩ := hrel
              have hj := HJ.out
              by_cases hlk : k < n
              · have hle : (j : Int) ≤ (hour : Int) := by omega
                have hj3 : j < 301 := by omega
                have hj3z : (j : Int) < 301 := by omega
                have hcell := HRG.out.cell (kk * 301 + j) (by omega)
                rw [HP.out j hj3] at hcell
                clear hj
                have hd : decide (0 ≤ firstH p (n - k) j) = (p j || decide (0 ≤ firstH p (n - (k + 1)) (j + 1))) := by
                  rw [show n - k = (n - (k + 1)) + 1 by omega, firstH]
                  cases p j with
                  | true => rw [if_pos rfl, Bool.true_or]; exact decide_eq_true (by omega)
                  | false => rw [if_neg (by simp), Bool.false_or]
                have HD : Aside0 (((b || p j) || decide (0 ≤ firstH p (n - (k + 1)) (j + 1))) = R) := ⟨by rw [← HA.out, hd, Bool.or_assoc]⟩
                clear hd
                cases b with
                | true =>
                  clear hcell
                  go_wp2
                  go_roundg (n - (k + 1))
                  case measure => omega
                  case rel => exact ⟨k + 1, j + 1, true, by omega, by omega, ⟨by rw [HJ.out]; rfl⟩, by go_num, rfl, ⟨by have := HD.out; simpa using this⟩, rfl⟩
                | false =>
                  rw [Bool.false_or] at HD
                  generalize p j = c at hcell HD
                  go_wp2
                  go_roundg (n - (k + 1))
                  case measure => omega
                  case rel => exact ⟨k + 1, j + 1, c, by omega, by omega, ⟨by rw [HJ.out]; rfl⟩, by go_num, rfl, HD, rfl⟩
              · have hle : ¬ (j : Int) ≤ (hour : Int) := by omega
                clear hj
                have hbR : Aside0 (b = R) := ⟨by rw [← HA.out, show n - k = 0 by omega, firstH]; simp⟩
                cases b with
                | false =>
                  have HT2 : Aside0 (Two .i64 2 (w.heap.size + 1 + 1) U wr u9 (.slice (some ⟨w.heap.size + 1 + 1 + 1, 0, none⟩) 0 0) (selL (statB t l x0 x1 hour) (kk + 1)) []) := ⟨by rw [HSS.out, if_neg (by rw [ESB.out, ← hbR.out]; simp)]; exact HT.out⟩
                  go_wp2
                  go_roundg (sn - (kk + 1))
                  case measure => omega
                  case rel => exact ⟨kk + 1, by omega, by omega, by go_num, HT2, HRG, HNB⟩
                | true =>
                  have HSX : Aside0 (selL (statB t l x0 x1 hour) (kk + 1) = selL (statB t l x0 x1 hour) kk ++ [(kk : Int)]) := ⟨by rw [HSS.out, if_pos (by rw [ESB.out, ← hbR.out])]⟩
                  have hgl2 := HRG.out.lt
                  go_wp2_with (at_builtin; refine print_append_num (w0 := U) (w.heap.size + 1 + 1) rfl (.tmp 74) (.tmp 76) 34 2 .i64 8 rfl Try.underlying34 infoI64 (by omega) _ (selL (statB t l x0 x1 hour) kk) ((kk : Int)) rfl (by go_simp) HT.out.l HT.out.below HT.out.size (by omega) ?_; intro v1 w6 hown1 hB1 hg1 hat1)
                  have HT2 : Aside0 (Two .i64 2 (w.heap.size + 1 + 1) U w6 v1 (.slice (some ⟨w.heap.size + 1 + 1 + 1, 0, none⟩) 0 0) (selL (statB t l x0 x1 hour) (kk + 1)) []) := ⟨by rw [HSX.out]; exact HT.out.grew_l hown1 hB1 hg1 hat1⟩
                  have HRG2 : Aside0 (RowAt w6 gb 109 G2) := ⟨⟨(hg1.block gb hgl2 (fun h => HNB.out h.symm)).trans HRG.out.out⟩⟩
                  have HNB2 : Aside0 (v1.ownBlock ≠ some gb) := ⟨own_ne HNB.out hat1 hgl2⟩
                  clear hown1 hB1 hg1 hat1
                  go_wp2
                  go_roundg (sn - (kk + 1))
                  case measure => omega
                  case rel => exact ⟨kk + 1, by omega, by omega, by go_num, HT2, HRG2, HNB2⟩
          · have hltz : ¬ (kk : Int) < (sn : Int) := by omega
            have hk : kk = sn := by omega
            subst hk
            have HT0 := HT
            have HRG0 := HRG
            clear hltz
            go_wp2
            go_loopg [10, 16] l.length (fun gg v10 v16 wr => ∃ (i : Nat), i ≤ l.length ∧ l.length - i ≤ gg ∧ v16 = .int .i64 i ∧ Aside0 (Two .i64 2 (w.heap.size + 1 + 1) U wr u9 v10 (selL (statB t l x0 x1 hour) kk) (selL (laneB t l x0 x1 hour) i)) ∧ Aside0 (RowAt wr gb 109 G2) ∧ Aside0 (v10.ownBlock ≠ some gb))
            case atStart => exact ⟨0, Nat.zero_le _, by omega, rfl, HT0, HRG0, HN2⟩
            case round =>
              obtain ⟨i, hi, hgg, rfl, HT, HRG, HNB⟩ := hrel
              have HBW := Aside0.mk (HU.out.trans (HT.out.below.mono (by omega)))
              have f1 := (HT.out.below.cell (p := ⟨w.heap.size, 1, none⟩) (by simp; omega)).trans q1.out
              have f2 := (HT.out.below.cell (p := ⟨w.heap.size, 2, none⟩) (by simp; omega)).trans q2.out
              have hl0 : w.heap.size < wr.heap.size := by have := HT.out.size; omega
              by_cases hlt : i < l.length
              · have hltz : (i : Int) < (l.length : Int) := by omega
                obtain ⟨ad, e, hy0, hy1, hy2, hy3⟩ := at_T44 (Kd.C_below HR.out HBW.out) (i : Int) (by omega) (by omega)
                have hlv := HL.out (l.getD i z44) (by rw [List.getD_eq_getElem?_getD, List.getElem?_eq_getElem hlt]; exact List.getElem_mem hlt)
                have HSS := Aside0.mk (selL_succ (laneB t l x0 x1 hour) i)
                have hsl := selL_length (laneB t l x0 x1 hour) i
                have EL : Aside0 (laneB t l x0 x1 hour i = (decide (1 < (l.getD i z44).f3) && someH (tmB t l x0 x1 (l.getD i z44).f0.toNat) (hour - (l.getD i z44).f3 + 1 - t) (hour - 1))) := ⟨rfl⟩
                simp only [rd_T44, Int.toNat_natCast] at hy0 hy1 hy2 hy3
                subst e
                generalize l.getD i z44 = x at hy0 hy1 hy2 hy3 hlv EL
                obtain ⟨f, g, m, n⟩ := x
                obtain ⟨v0, v1, v2, v3, v4, v5, v6, v7⟩ := hlv
                simp only at hy0 hy1 hy2 hy3 v0 v1 v2 v3 v4 v5 v6 v7 EL
                obtain ⟨fn, rfl⟩ := Int.eq_ofNat_of_zero_le v0
                rw [Int.toNat_natCast] at EL
                have hf8 : fn < 8 := by omega
                have hf8z : (fn : Int) < 8 := by omega
                obtain ⟨p, hp⟩ : ∃ p : Nat → Bool, p = tmB t l x0 x1 fn := ⟨_, rfl⟩
                have HP : Aside0 (∀ h, h < 301 → G2.getD (fn * 301 + h) false = p h) := ⟨fun h hh => by rw [hp]; exact HTM.out fn h hf8 hh⟩
                obtain ⟨q, hq⟩ : ∃ q : Nat → Bool, q = fun h => p h && decide (max (h : Int) ((hour : Int) - n + 1) ≤ min ((h : Int) + t) ((hour : Int) - 1)) := ⟨_, rfl⟩
                have HQ : Aside0 (∀ h, q h = (p h && decide (max (h : Int) ((hour : Int) - n + 1) ≤ min ((h : Int) + t) ((hour : Int) - 1)))) := ⟨fun h => by rw [hq]⟩
                obtain ⟨R, hR⟩ : ∃ R, R = decide (0 ≤ firstH q hour 0) := ⟨_, rfl⟩
                have ESB : Aside0 (laneB t l x0 x1 hour i = R) := ⟨by rw [EL.out, ← hp, ← lane_on t n hour ht0 (by omega), hR, hq]⟩
                have HRR := Aside0.mk hR
                obtain ⟨W6, hW6⟩ : ∃ W6, W6 = wr.alloc (.cells #[.int .i8 (fn : Int), .int .i8 g, .int .i16 m, .int .i16 n] 44) := ⟨_, rfl⟩
                have HT6 : Aside0 (Two .i64 2 (w.heap.size + 1 + 1) U W6 u9 u10 (selL (statB t l x0 x1 hour) kk) (selL (laneB t l x0 x1 hour) i)) := ⟨by rw [hW6]; exact HT.out.alloc _⟩
                have HRG6 : Aside0 (RowAt W6 gb 109 G2) := ⟨by rw [hW6]; exact HRG.out.alloc _⟩
                have j0 : W6.cell? ⟨wr.heap.size, 0, none⟩ = some (.int .i8 (fn : Int)) := by rw [hW6]; go_simp
                have j3 : W6.cell? ⟨wr.heap.size, 3, none⟩ = some (.int .i16 n) := by rw [hW6]; go_simp
                have k1 := (HT6.out.below.cell (p := ⟨w.heap.size, 1, none⟩) (by simp; omega)).trans q1.out
                have e3 : IntKind.i64.wrap n = n := IntWalk.i64_in _ (by omega)
                have e4 : IntKind.i64.wrap ((hour : Int) - n) = (hour : Int) - n := IntWalk.i64_in _ (by omega)
                have e5 : IntKind.i64.wrap ((hour : Int) - n + 1) = (hour : Int) - n + 1 := IntWalk.i64_in _ (by omega)
                have e7 : IntKind.i64.wrap ((hour : Int) - 1) = (hour : Int) - 1 := IntWalk.i64_in _ (by omega)
                clear hp hq hR
                go_wp2
                have HW6 := Aside0.mk hW6
                rw [← hW6]
                clear hW6
                have J0 := Aside0.mk j0
                have J3 := Aside0.mk j3
                have K1 := Aside0.mk k1
                clear hy0 hy1 hy2 hy3 f1 f2 j0 j3 k1
                go_loopg [18, 19] hour (fun gg v18 v19 wq => ∃ (j m : Nat) (b : Bool), j ≤ hour ∧ hour - j ≤ gg ∧ v19 = .int .i64 j ∧ v18 = .bool b ∧ Aside0 ((b || decide (0 ≤ firstH q (hour - j) j)) = R) ∧ wq = W6.drewN m)
                case atStart => exact ⟨0, 0, false, by omega, by omega, rfl, rfl, ⟨by rw [HRR.out]; rfl⟩, rfl⟩
                case round =>
                  obtain ⟨j, m0, b, hk, hg2, rfl, rfl, HA, rfl⟩ := hrel
                  by_cases hlk : j < hour
                  · have hle : (j : Int) < (hour : Int) := by omega
                    have hj3 : j < 301 := by omega
                    have hj3z : (j : Int) < 301 := by omega
                    have hcell := HRG6.out.cell (fn * 301 + j) (by omega)
                    rw [HP.out j hj3] at hcell
                    have hd : decide (0 ≤ firstH q (hour - j) j) = (q j || decide (0 ≤ firstH q (hour - (j + 1)) (j + 1))) := by
                      rw [show hour - j = (hour - (j + 1)) + 1 by omega, firstH]
                      cases q j with
                      | true => rw [if_pos rfl, Bool.true_or]; exact decide_eq_true (by omega)
                      | false => rw [if_neg (by simp), Bool.false_or]
                    have HD : Aside0 (((b || q j) || decide (0 ≤ firstH q (hour - (j + 1)) (j + 1))) = R) := ⟨by rw [← HA.out, hd, Bool.or_assoc]⟩
                    have HQJ := Aside0.mk (HQ.out j)
                    have e8 : IntKind.i64.wrap ((j : Int) + t) = (j : Int) + t := IntWalk.i64_in _ (by omega)
                    clear hd
                    have j3 : (W6.drewN m0).cell? ⟨wr.heap.size, 3, none⟩ = some (.int .i16 n) := J3.out
                    have j0 : (W6.drewN m0).cell? ⟨wr.heap.size, 0, none⟩ = some (.int .i8 (fn : Int)) := J0.out
                    have k1 : (W6.drewN m0).cell? ⟨w.heap.size, 1, none⟩ = some (.int .i16 t) := K1.out
                    have hcell : (W6.drewN m0).cell? ⟨gb, fn * 301 + j, none⟩ = some (.bool (p j)) := hcell
                    obtain ⟨W7, hW7⟩ : ∃ W7, W7 = W6.drewN m0 := ⟨_, rfl⟩
                    rw [← hW7] at j0 j3 k1 hcell ⊢
                    have HW7 := Aside0.mk hW7
                    clear hW7
                    obtain ⟨mx, hmx⟩ : ∃ mx, mx = max (j : Int) ((hour : Int) - n + 1) := ⟨_, rfl⟩
                    obtain ⟨mn, hmn⟩ : ∃ mn, mn = min ((j : Int) + t) ((hour : Int) - 1) := ⟨_, rfl⟩
                    rw [← hmx, ← hmn] at HQJ
                    have HMX := Aside0.mk hmx
                    have HMN := Aside0.mk hmn
                    clear hmx hmn
                    go_wp2_with fail
                    refine (l00Max_is _ _ _).mono ?_
                    rintro e w7 ⟨rfl, rfl⟩
                    rw [← HMX.out]
                    cases b with
                    | true =>
                      clear hcell
                      go_wp2_with fail
                      go_quiet (fail)
                      go_wp2
                      go_roundg (hour - (j + 1))
                      case measure => omega
                      case rel => exact ⟨j + 1, _, true, by omega, by omega, by go_num, rfl, ⟨by have := HD.out; simpa using this⟩, by rw [HW7.out, World.drewN_drewN]⟩
                    | false =>
                      rw [Bool.false_or] at HD
                      cases hc : p j with
                      | false =>
                        rw [hc] at hcell
                        rw [HQJ.out, hc, Bool.false_and] at HD
                        go_wp2_with fail
                        go_quiet (fail)
                        go_wp2
                        go_roundg (hour - (j + 1))
                        case measure => omega
                        case rel => exact ⟨j + 1, _, false, by omega, by omega, by go_num, rfl, HD, by rw [HW7.out, World.drewN_drewN]⟩
                      | true =>
                        rw [hc] at hcell
                        rw [HQJ.out, hc, Bool.true_and] at HD
                        have HMN2 : Aside0 (∀ W, Calls Try.prog 41 #[.int .i64 ((j : Int) + t), .int .i64 ((hour : Int) - 1)] W fun e w' => e = .returned (.int .i64 mn) ∧ w' = W) := ⟨fun W => by rw [HMN.out]; exact (l00Min_is _ _ W).mono fun _ _ h => ⟨h.1, h.2.symm⟩⟩
                        go_wp2_with fail
                        go_quiet ((go_at_call 41; exact Calls.quiet_of_same (HMN2.out _)))
                        go_wp2
                        go_roundg (hour - (j + 1))
                        case measure => omega
                        case rel => exact ⟨j + 1, _, decide (mx ≤ mn), by omega, by omega, by go_num, rfl, HD, by rw [HW7.out, World.drewN_drewN]⟩
                  · have hle : ¬ (j : Int) < (hour : Int) := by omega
                    have hbR : Aside0 (b = R) := ⟨by rw [← HA.out, show hour - j = 0 by omega, firstH]; simp⟩
                    have HT7 : Aside0 (Two .i64 2 (w.heap.size + 1 + 1) U (W6.drewN m0) u9 u10 (selL (statB t l x0 x1 hour) kk) (selL (laneB t l x0 x1 hour) i)) := ⟨HT6.out.drewN m0⟩
                    have HRG7 : Aside0 (RowAt (W6.drewN m0) gb 109 G2) := ⟨HRG6.out.drewN m0⟩
                    obtain ⟨W7, hW7⟩ : ∃ W7, W7 = W6.drewN m0 := ⟨_, rfl⟩
                    rw [← hW7] at HT7 HRG7 ⊢
                    clear hW7
                    cases b with
                    | false =>
                      have HT8 : Aside0 (Two .i64 2 (w.heap.size + 1 + 1) U W7 u9 u10 (selL (statB t l x0 x1 hour) kk) (selL (laneB t l x0 x1 hour) (i + 1))) := ⟨by rw [HSS.out, if_neg (by rw [ESB.out, ← hbR.out]; simp)]; exact HT7.out⟩
                      go_wp2
                      go_roundg (l.length - (i + 1))
                      case measure => omega
                      case rel => exact ⟨i + 1, by omega, by omega, by go_num, HT8, HRG7, HNB⟩
                    | true =>
                      have HSX : Aside0 (selL (laneB t l x0 x1 hour) (i + 1) = selL (laneB t l x0 x1 hour) i ++ [(i : Int)]) := ⟨by rw [HSS.out, if_pos (by rw [ESB.out, ← hbR.out])]⟩
                      have hgl2 := HRG7.out.lt
                      go_wp2_with (at_builtin; refine print_append_num (w0 := U) (w.heap.size + 1 + 1) rfl (.tmp 127) (.tmp 129) 34 2 .i64 8 rfl Try.underlying34 infoI64 (by omega) _ (selL (laneB t l x0 x1 hour) i) ((i : Int)) rfl (by go_simp) HT7.out.r HT7.out.below HT7.out.size (by omega) ?_; intro v1 w6 hown1 hB1 hg1 hat1)
                      have HT8 : Aside0 (Two .i64 2 (w.heap.size + 1 + 1) U w6 u9 v1 (selL (statB t l x0 x1 hour) kk) (selL (laneB t l x0 x1 hour) (i + 1))) := ⟨by rw [HSX.out]; exact HT7.out.grew_r hown1 hB1 hg1 hat1⟩
                      have HRG8 : Aside0 (RowAt w6 gb 109 G2) := ⟨⟨(hg1.block gb hgl2 (fun h => HNB.out h.symm)).trans HRG7.out.out⟩⟩
                      have HNB8 : Aside0 (v1.ownBlock ≠ some gb) := ⟨own_ne HNB.out hat1 hgl2⟩
                      clear hown1 hB1 hg1 hat1
                      go_wp2
                      go_roundg (l.length - (i + 1))
                      case measure => omega
                      case rel => exact ⟨i + 1, by omega, by omega, by go_num, HT8, HRG8, HNB8⟩
              · have hltz : ¬ (i : Int) < (l.length : Int) := by omega
                have hk2 : i = l.length := by omega
                have HTE : Aside0 (Two .i64 2 (w.heap.size + 1 + 1) U wr u9 u10 (selL (statB t l x0 x1 hour) kk) (selL (laneB t l x0 x1 hour) l.length)) := ⟨by rw [← hk2]; exact HT.out⟩
                clear hk2 HT
                go_wp2
                go_ret3
                rw [ER.out]
                exact ⟨_, _, rfl, Kd.R_lower (Kd.R_of_own HTE.out.l (fun j hj h2 => HTE.out.ne j hj h2.symm)) (by omega), Kd.R_lower (Kd.R_of_own HTE.out.r (fun j hj h2 => HTE.out.ne j h2.symm hj)) (by omega), HBW.out⟩
    · have ER := Aside0.mk (ENE.out hcd)
      clear ENE EEQ
      generalize codeB (netB s t l) (scanIn s ⟨a0, a1⟩ && inB hour 0 300) = cd at *
      have hnb : (cd != 0) = true := by simp [hcd]
      clear hcd
      go_wp2
      go_ret3
      rw [ER.out]
      exact ⟨_, _, rfl, Kd.R_lower (Kd.R_of_own T5.out.l (fun j hj h2 => T5.out.ne j hj h2.symm)) (by omega), Kd.R_lower (Kd.R_of_own T5.out.r (fun j hj h2 => T5.out.ne j h2.symm hj)) (by omega), HU.out.trans (T5.out.below.mono (by omega))⟩
def spec_WhereAt.f (a0_0 : Int) (a0_1 : Int) (l0_2 : List (S44)) (a1_0 : Int) (a1_1 : Int) (a2 : Int) : Option (List Int × List Int × Int) := if okNet a0_0 a0_1 l0_2 = true ∧ okScan ⟨a1_0, a1_1⟩ = true then some (whereRes a0_0 a0_1 l0_2 ⟨a1_0, a1_1⟩ a2) else none
theorem spec_WhereAt.calls (a0_0 : Int) (a0_1 : Int) (A0_2 : Option Addr) (c0_2 : Nat) (l0_2 : List (S44)) (a1_0 : Int) (a1_1 : Int) (a2 : Int) (r1 : List Int) (r2 : List Int) (r3 : Int) (w : World) (hr0_2 : Kd.C k44 w A0_2 l0_2.length l0_2) (hc0_2 : l0_2.length ≤ c0_2) (h : spec_WhereAt.f a0_0 a0_1 l0_2 a1_0 a1_1 a2 = some (r1, r2, r3)) :
    Calls Try.prog 9 #[.agg #[.int .i8 a0_0, .int .i16 a0_1, .slice A0_2 l0_2.length c0_2], .agg #[.int .i8 a1_0, .int .i16 a1_1], .int .i64 a2] w fun e w' => ∃ v0_ v1_ : Value, e = .returned (.tuple #[v0_, v1_, .int .i64 r3]) ∧ Kd.R (Kd.int .i64) 2 w' w.heap.size (fun k_ => some k_ ≠ (v1_ : Value).ownBlock) v0_ r1 ∧ Kd.R (Kd.int .i64) 2 w' w.heap.size (fun k_ => some k_ ≠ (v0_ : Value).ownBlock) v1_ r2 ∧ Below w.heap.size w w' := by
  unfold spec_WhereAt.f at h
  split at h
  · injection h with h
    have h1 : (whereRes a0_0 a0_1 l0_2 ⟨a1_0, a1_1⟩ a2).1 = r1 := by rw [h]
    have h2 : (whereRes a0_0 a0_1 l0_2 ⟨a1_0, a1_1⟩ a2).2.1 = r2 := by rw [h]
    have h3 : (whereRes a0_0 a0_1 l0_2 ⟨a1_0, a1_1⟩ a2).2.2 = r3 := by rw [h]
    rw [← h1, ← h2, ← h3]
    rename_i hh
    exact sWhereAt_any _ _ _ _ _ _ _ _ w hr0_2 hc0_2 hh.1 hh.2
  · cases h
end Go.Proofs.Yticfecncdpdanaa.Q
