/- impl's SwapsFor; slices.Index at []int64. -/
import Derived.Test.YtgjpnamckkedfaaHSwapped
import Derived.Test.YtgjpnamckkedfaaRings
set_option linter.unusedVariables false
set_option linter.unusedSimpArgs false
namespace Go.Proofs.Ytgjpnamckkedfaa.Q
open Go.RowKit Go.Proofs.YtgjpnamckkedfaaW.PrintWords Go.Proofs.YtgjpnamckkedfaaW.PrintLast Go.Proofs.YtgjpnamckkedfaaW.PrintMore
set_option maxHeartbeats 2000000 in
theorem index_is (A : Option Addr) (c : Nat) (l : List Int) (x : Int) (w : World) (hr : Kd.C (Kd.int .i64) w A l.length l) (hc : l.length ≤ c) :
    Calls Try.prog 15 #[.slice A l.length c, .int .i64 x] w fun e w' => e = .returned (.int .i64 (whereL l x)) ∧ Below w.heap.size w w' := by
  have HR := Aside0.mk hr
  have hbig : l.length ≤ 9223372036854775807 := hr.2.1
  clear hr
  go_enter Try.func15, Try.ntmps15
  go_wp2_with fail
  go_loopg [8] l.length (fun gg v8 wr => ∃ k : Nat, k ≤ l.length ∧ l.length - k ≤ gg ∧ v8 = .int .i64 k ∧ Aside0 (Below w.heap.size w wr) ∧ Aside0 (whereF x (l.drop k) k = whereL l x))
  case atStart => exact ⟨0, Nat.zero_le _, by omega, rfl, ⟨Below.refl _ _⟩, ⟨rfl⟩⟩
  case round =>
    obtain ⟨k, hk, hg, rfl, BW, HD⟩ := hrel
    by_cases hlt : k < l.length
    · have hltz : (k : Int) < (l.length : Int) := by omega
      obtain ⟨ad, e, hx0⟩ := at_int64 (Kd.C_below HR.out BW.out) k hlt
      subst e
      have hs := whereF_step l x k hlt
      rw [HD.out] at hs
      generalize l.getD k 0 = y at *
      by_cases hxy : y = x
      · have hd : Aside0 (whereL l x = k) := ⟨by rw [hs, if_pos hxy]⟩
        have hxz : (x == y) = true := by simp [hxy]
        clear hxy hs HD
        go_wp2_with fail
        try go_quiet (fail)
        try go_wp2
        go_ret
        exact ⟨by rw [hd.out]; rfl, BW.out⟩
      · have hd : Aside0 (whereF x (l.drop (k + 1)) ((k + 1 : Nat) : Int) = whereL l x) := ⟨by rw [hs, if_neg hxy]⟩
        have hxz : (x == y) = false := by simp; exact fun e => hxy e.symm
        clear hxy hs HD
        go_wp2_with fail
        try go_quiet (fail)
        try go_wp2
        go_roundg (l.length - (k + 1))
        case measure => omega
        case rel => exact ⟨k + 1, by omega, by omega, by go_num, BW, hd⟩
    · have hltz : ¬ (k : Int) < (l.length : Int) := by omega
      have hd : Aside0 (whereL l x = -1) := ⟨by rw [← HD.out]; exact whereF_end l x k (by omega)⟩
      go_wp2
      go_ret
      exact ⟨by rw [hd.out]; rfl, BW.out⟩
theorem perm_of_sort {l m : List Int} (h : sortL m = sortL l) : m.Perm l := by
  have h1 := List.mergeSort_perm m (fun x y => decide (x ≤ y))
  have h2 := List.mergeSort_perm l (fun x y => decide (x ≤ y))
  unfold sortL at h
  rw [h] at h1
  exact h1.symm.trans h2
theorem swapped_facts {l m : List Int} (h : areSwB l m = true) : l.length ≤ 9 ∧ m.Perm l := by
  unfold areSwB at h
  simp only [Bool.and_eq_true, decide_eq_true_eq] at h
  exact ⟨h.1, perm_of_sort h.2.2.2⟩
def swapsR (l m : List Int) : List (List Int) × Int := if areSwB l m = true then (ringsI l m, 0) else ([], 1)
theorem R_empty0 {α : Type} (d : Kd α) (e : Nat) (W : World) (base : Nat) (ok : Nat → Prop) (b : Nat) (he : b = W.heap.size) (hb : base ≤ W.heap.size) (ho : ok W.heap.size) : d.R e (W.alloc (.cells #[] e)) base ok (.slice (some ⟨b, 0, none⟩) 0 0) ([] : List α) := by
  subst he
  refine ⟨fun k hk => ?_, [], World.ownsRow_made W #[] 0 hb (by decide) (by simp), Reps.none _ _⟩
  have : W.heap.size = k := by simpa [Value.ownBlock] using hk
  rw [← this]
  exact ho
theorem S_empty0 {α : Type} (d : Kd α) (e : Nat) (W : World) (base b : Nat) (he : b = W.heap.size) (hb : base ≤ W.heap.size) : Kd.S d e (W.alloc (.cells #[] e)) base (fun _ => True) (.slice (some ⟨b, 0, none⟩) 0 0) ([] : List α) :=
  ⟨fun _ => 0, R_empty0 (Kd.tag (fun _ => 0) d) e W base (fun _ => True) b he hb trivial⟩
theorem S_off {α : Type} {d : Kd α} {e base b : Nat} {ok : Nat → Prop} {w w1 : World} {v : Value} {xs : List α} {met : List Bool} (h : Kd.S d e w base ok v xs) (hM : MetAt w b met) (hg : w.grownBy w1 (some b)) : Kd.S d e w1 base ok v xs :=
  Kd.S_mono (Kd.S_grown (Kd.S_bound h) hg (fun k hk e => by
    injection e with e
    subst e
    obtain ⟨es, clock, hm⟩ := hM.isMap
    obtain ⟨_, _, _, q, _, cells, hc⟩ := hk
    rw [hm] at hc
    cases hc)) (fun k hk => hk.1)
theorem R_off {α : Type} {d : Kd α} {e base b : Nat} {ok : Nat → Prop} {w w1 : World} {v : Value} {xs : List α} {met : List Bool} (h : d.R e w base ok v xs) (hM : MetAt w b met) (hg : w.grownBy w1 (some b)) : d.R e w1 base ok v xs :=
  Kd.R_mono (Kd.R_grown (Kd.R_bound h) hg (fun k hk e => by
    injection e with e
    subst e
    obtain ⟨es, clock, hm⟩ := hM.isMap
    obtain ⟨_, _, _, q, _, cells, hc⟩ := hk
    rw [hm] at hc
    cases hc)) (fun k hk => hk.1)
theorem infoSl : (Try.prog.info? 25).map (fun i => (i.zero, i.size, i.bytes)) = some (some (.slice none 0 0), 1, 24) := by kernel_rfl
set_option maxRecDepth 100000 in
set_option maxHeartbeats 8000000 in
theorem iSwaps_is (A : Option Addr) (c : Nat) (l : List Int) (A1 : Option Addr) (c1 : Nat) (m : List Int) (w : World) (hr : Kd.C (Kd.int .i64) w A l.length l) (hc : l.length ≤ c) (hl : l.length ≤ 1048576) (hr1 : Kd.C (Kd.int .i64) w A1 m.length m) (hc1 : m.length ≤ c1) (hm : m.length ≤ 1048576) :
    Calls Try.prog 7 #[.slice A l.length c, .slice A1 m.length c1] w fun e w' => ∃ v, e = .returned (.tuple #[v, .int .i64 (swapsR l m).2]) ∧ Kd.S (Kd.slice 2 (Kd.int .i64)) 25 w' w.heap.size (fun _ => True) v (swapsR l m).1 ∧ Below w.heap.size w w' := by
  have HA := Aside0.mk (areSwapped_is A c l A1 c1 m w hr hc hl hr1 hc1 hm)
  have HR := Aside0.mk hr
  have HR1 := Aside0.mk hr1
  clear hr hr1
  have hmm := @run_makeMap Try.prog
  have HE : Aside0 (swapsR l m = if areSwB l m = true then (ringsI l m, 0) else ([], 1)) := ⟨rfl⟩
  have HF := Aside0.mk (@swapped_facts l m)
  go_enter Try.func7, Try.ntmps7
  go_wp2_with fail
  refine HA.out.mono ?_
  rintro e w1 ⟨rfl, hb1⟩
  have HB1 := Aside0.mk hb1
  clear hb1 HA
  cases hq : areSwB l m with
  | false =>
    rw [hq] at HE
    clear hq HF
    go_wp2
    go_ret2
    rw [HE.out]
    exact ⟨_, rfl, Kd.S_nil _ _ _ _ _, HB1.out⟩
  | true =>
    rw [hq] at HE HF
    obtain ⟨hn9, hperm⟩ := HF.out rfl
    have hlm : m.length = l.length := hperm.length_eq
    have HMem : Aside0 (∀ x ∈ m, x ∈ l) := ⟨fun x hx => hperm.mem_iff.1 hx⟩
    clear hq hperm HF
    go_wp2_with fail
    have HS0 : Aside0 (Kd.S (Kd.slice 2 (Kd.int .i64)) 25 ((w1.alloc (.cells #[] 25)).alloc (.map #[] 0)) w.heap.size (fun _ => True) (.slice (some ⟨w1.heap.size, 0, none⟩) 0 0) ([] : List (List Int))) := ⟨Kd.S_alloc (S_empty0 _ _ w1 _ _ rfl HB1.out.size) _⟩
    have HM0 : Aside0 (MetAt ((w1.alloc (.cells #[] 25)).alloc (.map #[] 0)) (w1.heap.size + 1) (List.replicate l.length false)) := ⟨MetAt.start _ l.length _ (by simp) hn9⟩
    have BW0 : Aside0 (Below w.heap.size w ((w1.alloc (.cells #[] 25)).alloc (.map #[] 0))) := ⟨(HB1.out.alloc HB1.out.size _).alloc (by have := HB1.out.size; simp; omega) _⟩
    obtain ⟨bm, hbm⟩ : ∃ bm, w1.heap.size + 1 = bm := ⟨_, rfl⟩
    rw [hbm] at HM0 ⊢
    have hbw : w.heap.size < bm := by have := HB1.out.size; omega
    generalize ((w1.alloc (.cells #[] 25)).alloc (.map #[] 0)) = W0 at *
    obtain ⟨RR, hRR⟩ : ∃ RR, ringsI l m = RR := ⟨_, rfl⟩
    have HRR : Aside0 (outI l m (l.length - 0) (List.replicate l.length false) [] 0 = RR) := ⟨hRR⟩
    rw [hRR] at HE
    clear hbm hRR HB1
    go_loopg [6, 19] l.length (fun gg v6 v19 wr => ∃ (i : Nat) (met : List Bool) (out : List (List Int)), i ≤ l.length ∧ l.length - i ≤ gg ∧ met.length = l.length ∧ out.length ≤ i ∧ v19 = .int .i64 i ∧ Aside0 (MetAt wr bm met) ∧ Aside0 (Kd.S (Kd.slice 2 (Kd.int .i64)) 25 wr w.heap.size (fun _ => True) v6 out) ∧ Aside0 (Below w.heap.size w wr) ∧ Aside0 (outI l m (l.length - i) met out i = RR))
    case atStart => exact ⟨0, _, [], Nat.zero_le _, by omega, by simp, by simp, rfl, HM0, HS0, BW0, HRR⟩
    case round =>
      obtain ⟨i, met, out, hi, hg, hml, hol, rfl, HM, HS, BW, HO⟩ := hrel
      by_cases hlt : i < l.length
      · have hltz : (i : Int) < (l.length : Int) := by omega
        go_wp2_with fail
        obtain ⟨RS, hRS⟩ : ∃ RS, ringL l m (l.length + 1) met [] i = RS := ⟨_, rfl⟩
        have HN : Aside0 (outI l m (l.length - (i + 1)) RS.2 (if 1 < RS.1.length then out ++ [RS.1] else out) (i + 1) = RR) := ⟨by
          rw [← hRS, ← HO.out, show l.length - i = (l.length - (i + 1)) + 1 by omega]; rfl⟩
        have HRS := Aside0.mk hRS
        have HS1 : Aside0 (Kd.S (Kd.slice 2 (Kd.int .i64)) 25 (wr.alloc (.cells #[] 2)) w.heap.size (fun k_ => True ∧ some k_ ≠ (Value.slice (some ⟨wr.heap.size, 0, none⟩) 0 0).ownBlock) u6 out) := ⟨Kd.S_elder' HS.out (fun k hk => by simp [Value.ownBlock] at hk; omega) ((Below.refl _ wr).alloc (Nat.le_refl _) _)⟩
        have HR9 : Aside0 (Kd.R (Kd.int .i64) 2 (wr.alloc (.cells #[] 2)) w.heap.size (fun _ => True) (.slice (some ⟨wr.heap.size, 0, none⟩) 0 0) ([] : List Int)) := ⟨R_empty0 _ _ wr _ _ _ rfl BW.out.size trivial⟩
        have HM1 : Aside0 (MetAt (wr.alloc (.cells #[] 2)) bm met) := ⟨HM.out.kept (World.grownBy_alloc wr _ none) (by simp)⟩
        have BW1 : Aside0 (Below w.heap.size w (wr.alloc (.cells #[] 2))) := ⟨BW.out.alloc BW.out.size _⟩
        have hcnt : met.count false ≤ 9 := Nat.le_trans List.count_le_length (by omega)
        have hcnt2 : met.count false ≤ l.length := Nat.le_trans List.count_le_length (by omega)
        clear hRS HO HM HS BW
        generalize wr.alloc (.cells #[] 2) = wa at *
        go_loopg [9, 10] (l.length + 1) (fun gg v9 v10 wr => ∃ (f : Nat) (met' : List Bool) (ring : List Int) (k : Nat), k < l.length ∧ met'.length = l.length ∧ met'.count false < f ∧ f ≤ gg ∧ ring.length + met'.count false ≤ 9 ∧ v10 = .int .i64 k ∧ Aside0 (MetAt wr bm met') ∧ Aside0 (Kd.S (Kd.slice 2 (Kd.int .i64)) 25 wr w.heap.size (fun k_ => True ∧ some k_ ≠ v9.ownBlock) u6 out) ∧ Aside0 (Kd.R (Kd.int .i64) 2 wr w.heap.size (fun _ => True) v9 ring) ∧ Aside0 (Below w.heap.size w wr) ∧ Aside0 (ringL l m f met' ring k = RS))
        case atStart => exact ⟨l.length + 1, met, [], i, hlt, hml, by omega, Nat.le_refl _, by simp; exact hcnt, rfl, HM1, HS1, HR9, BW1, HRS⟩
        case round =>
          obtain ⟨f, met', ring, k, hk, hml', hcf, hfg, hrl, rfl, HM, HS, HR9, BW, HO⟩ := hrel
          have hkm : k < met'.length := by omega
          have hk2 : k < 1048576 := by omega
          cases hmk : met'.getD k false with
          | true =>
            have HE2 : Aside0 ((ring, met') = RS) := ⟨by rw [← HO.out, ringL_stop l m f met' ring k hmk]⟩
            subst_vars
            have hN2 := HN.out
            rw [← HE2.out] at hN2
            simp only at hN2
            have HN2 := Aside0.mk hN2
            have hrb : ring.length ≤ 9 := by omega
            clear hN2 HN HE2 HO
            by_cases h1 : 1 < ring.length
            · have h1z : (1 : Int) < (ring.length : Int) := by omega
              obtain ⟨A2, c2, e2, hc2, hC2⟩ := Kd.R_reads HR9.out
              subst e2
              have HAp := Aside0.mk (Kd.R_mono (ok' := fun k_ => (fun _ => True) k_ ∧ some k_ ≠ (u6 : Value).ownBlock) (Kd.R_apart' HR9.out (Kd.S_typed HS.out) (by decide)) (fun k_ hk => ⟨trivial, hk.2⟩))
              have HN3 : Aside0 (outI l m (l.length - (i + 1)) met' (out ++ [ring]) (i + 1) = RR) := ⟨by have := HN2.out; rwa [if_pos h1] at this⟩
              clear hC2
              go_wp2_with (first | (at_lookup; refine met_lookup _ rfl _ _ rfl bm met' rfl HM.out k hkm hk2 rfl true hmk ?_) | (at_builtin; refine Kd.S_append (Kd.slice 2 (Kd.int .i64)) (w0 := w) w.heap.size rfl (.tmp 43) (.tmp 45) 27 25 (.slice none 0 0) 24 rfl Try.underlying27 infoSl rfl (by decide) (by omega) u6 out ring [.slice A2 ring.length c2] (fun _ => True) (fun k_ => some k_ = (.slice A2 ring.length c2 : Value).ownBlock) rfl rfl (Kd.M_row (Kd.R_mono (Kd.R_tight rfl HAp.out) (fun _ h_ => h_))) (fun k_ hk_ => HAp.out.1 k_ hk_.symm) (fun _ _ => trivial) (Kd.S_mono HS.out (fun k_ hk => ⟨trivial, fun e_ => hk.2 e_⟩)) BW.out BW.out.size (by omega) ?_; intro v9 w9 hS9 hB9 hg9 hat9; have HM9 := Aside0.mk (HM.out.kept hg9 (HM.out.not_row (Kd.S_typed HS.out)))))
              go_roundg (l.length - (i + 1))
              case measure => omega
              case rel => exact ⟨i + 1, met', _, by omega, by omega, hml', by simp; omega, by go_num, HM9, ⟨hS9⟩, ⟨hB9⟩, HN3⟩
            · have h1z : ¬ (1 : Int) < (ring.length : Int) := by omega
              obtain ⟨A2, c2, e2, hc2, hC2⟩ := Kd.R_reads HR9.out
              subst e2
              have HN3 : Aside0 (outI l m (l.length - (i + 1)) met' out (i + 1) = RR) := ⟨by have := HN2.out; rwa [if_neg h1] at this⟩
              clear hC2
              go_wp2_with (at_lookup; refine met_lookup _ rfl _ _ rfl bm met' rfl HM.out k hkm hk2 rfl true hmk ?_)
              go_roundg (l.length - (i + 1))
              case measure => omega
              case rel => exact ⟨i + 1, met', _, by omega, by omega, hml', by omega, by go_num, HM, ⟨Kd.S_mono HS.out (fun _ _ => trivial)⟩, BW, HN3⟩
          | false =>
            obtain ⟨f', rfl⟩ : ∃ f', f = f' + 1 := ⟨f - 1, by omega⟩
            have hO2 := HO.out
            rw [ringL_go l m f' met' ring k hmk] at hO2
            have hcs := unmet_set met' k hkm hmk
            have hxm : m.getD k 0 ∈ m := by rw [List.getD_eq_getElem?_getD, List.getElem?_eq_getElem (by omega)]; exact List.getElem_mem (by omega)
            obtain ⟨jn, hjn, ejn, _⟩ := whereL_in (HMem.out _ hxm)
            rw [ejn] at hO2
            obtain ⟨ad, e, hx⟩ := at_int64 HR1.out k (by omega)
            subst e
            have HWJ := Aside0.mk ejn
            have HO2 : Aside0 (ringL l m f' (met'.set k true) (ring ++ [(k : Int)]) jn = RS) := ⟨by simpa using hO2⟩
            generalize m.getD k 0 = y at *
            clear hO2 ejn hxm HO
            go_wp2_with (first | (at_lookup; refine met_lookup _ rfl _ _ rfl bm met' rfl HM.out k hkm hk2 rfl false hmk ?_) | (at_mapUpdate; refine met_update _ rfl _ _ _ rfl bm met' rfl HM.out k hkm hk2 hmk rfl rfl ?_; intro wu hMu hgu; have HMu := Aside0.mk hMu; have HSu := Aside0.mk (S_off HS.out HM.out hgu); have HRu := Aside0.mk (R_off HR9.out HM.out hgu); have HBu : Aside0 (Below w.heap.size w wu) := ⟨BW.out.grown hgu BW.out.size (fun j hj => by cases hj; omega)⟩; clear hMu hgu) | (at_builtin; refine Kd.R_append (Kd.int .i64) (w0 := w) w.heap.size rfl (.tmp 36) (.tmp 38) 25 2 (.int .i64 0) 8 rfl Try.underlying25 infoI64 rfl (by decide) (by omega) u9 ring (k : Int) [.int .i64 k] (fun _ => True) (fun _ => False) rfl rfl rfl (fun _ h => h.elim) (fun _ _ => trivial) HRu.out HBu.out HBu.out.size (by omega) ?_; intro v9 w9 hR9 hB9 hg9 hat9; have HM9 := Aside0.mk (HMu.out.kept hg9 (HMu.out.not_row (Kd.R_typed HRu.out))); have HS9 := Aside0.mk (Kd.S_after HSu.out hg9 hat9); have HR10 := Aside0.mk hR9; have HB9 := Aside0.mk hB9; have hx9 := pw_cell_below hB9 hx; clear hR9 hg9 hat9) | (go_at_call 15; refine (index_is A c l _ _ (Kd.C_below HR.out HB9.out) hc).mono ?_; rintro e w10 ⟨rfl, hb10⟩))
            rw [HWJ.out]
            go_wp2
            go_roundg f'
            case measure => omega
            case rel => exact ⟨f', _, _, jn, hjn, by simp; omega, by omega, Nat.le_refl _, by simp; omega, rfl, ⟨HM9.out.kept (grown_of_below hb10 none) (by simp)⟩, ⟨Kd.S_below HS9.out hb10⟩, ⟨Kd.R_below HR10.out hb10⟩, ⟨HB9.out.trans (hb10.mono HB9.out.size)⟩, HO2⟩
      · have hltz : ¬ (i : Int) < (l.length : Int) := by omega
        have HE2 : Aside0 (out = RR) := ⟨by rw [← HO.out, show l.length - i = 0 by omega]; rfl⟩
        go_wp2_with fail
        go_ret2
        rw [HE.out, ← HE2.out]
        exact ⟨_, rfl, HS.out, BW.out⟩
def impl_SwapsFor.f (l0 : List Int) (l1 : List Int) : Option ((List (List Int)) × Int) := if l0.length ≤ 1048576 ∧ l1.length ≤ 1048576 then some (swapsR l0 l1) else none
theorem impl_SwapsFor.calls (A0 : Option Addr) (c0 : Nat) (l0 : List Int) (A1 : Option Addr) (c1 : Nat) (l1 : List Int) (r1 : List (List Int)) (r2 : Int) (w : World) (hr0 : Kd.C (Kd.int .i64) w A0 l0.length l0) (hc0 : l0.length ≤ c0) (hr1 : Kd.C (Kd.int .i64) w A1 l1.length l1) (hc1 : l1.length ≤ c1) (h : impl_SwapsFor.f l0 l1 = some (r1, r2)) :
    Calls Try.prog 7 #[.slice A0 l0.length c0, .slice A1 l1.length c1] w fun e w' => ∃ v0_ : Value, e = .returned (.tuple #[v0_, .int .i64 r2]) ∧ Kd.S (Kd.slice 2 (Kd.int .i64)) 25 w' w.heap.size (fun _ => True) v0_ r1 ∧ Below w.heap.size w w' := by
  unfold impl_SwapsFor.f at h
  split at h
  · rename_i hl
    injection h with h
    have := iSwaps_is A0 c0 l0 A1 c1 l1 w hr0 hc0 hl.1 hr1 hc1 hl.2
    rw [h] at this
    exact this
  · cases h
end Go.Proofs.Ytgjpnamckkedfaa.Q
