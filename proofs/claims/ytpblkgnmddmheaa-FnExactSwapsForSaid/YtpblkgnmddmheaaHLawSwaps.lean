/- The law FnExactSwapsFor, walked: it returns true for all lists. -/
import Derived.Test.YtpblkgnmddmheaaSpecSwap
import Derived.Test.YtpblkgnmddmheaaHSwaps
import Derived.Test.YtpblkgnmddmheaaHMarkSS
set_option linter.unusedVariables false
set_option linter.unusedSimpArgs false
namespace Go.Proofs.Ytpblkgnmddmheaa.Q
open Go.RowKit Go.Proofs.YtpblkgnmddmheaaW.PrintWords Go.Proofs.YtpblkgnmddmheaaW.PrintLast Go.Proofs.YtpblkgnmddmheaaW.PrintMore Go.Proofs.Ytpblkgnmddmheaa.Loops
theorem toS_is (l : List Int) (hl : l.length ≤ 1048576) : laws_toInt64S.f 1048577 l = some l := by
  unfold laws_toInt64S.f
  rw [if_pos (by omega), if_pos (by omega)]
  have := fill_all laws_toInt64S.l0 id 0 (fun k l xs i => by simp only [laws_toInt64S.l0]; rfl) l hl 1048577 (by omega) (List.replicate ((l.length : Int) : Int).toNat 0) (by simp)
  rw [List.map_id] at this
  exact this
theorem eqS_is (l : List Int) (hl : l.length ≤ 1048576) (k : Nat) (hk : l.length < k) : laws_eqInt64S.f k l l = some true := by
  unfold laws_eqInt64S.f
  rw [if_pos rfl]
  have := same_all laws_eqInt64S.l0 0 (fun k l m i h0 h1 h2 => ?_) (fun k l m i h => ?_) l l rfl hl k hk
  · simpa using this
  · simp only [laws_eqInt64S.l0]
    rw [if_pos h1, if_pos h0, if_pos (by omega)]
    rfl
  · simp only [laws_eqInt64S.l0]
    rw [if_neg (by omega)]
theorem rdL_at (l : List (List Int)) (i : Nat) : rd_L1 l (i : Int) = l.getD i [] := by simp [rd_L1]
theorem mem_getD {l : List (List Int)} {i : Nat} (h : i < l.length) : l.getD i [] ∈ l := by
  rw [List.getD_eq_getElem?_getD, List.getElem?_eq_getElem h]; exact List.getElem_mem h
theorem eqSS_loop (ls : List (List Int)) (hn : ls.length ≤ 1000) (hr : ∀ r ∈ ls, r.length ≤ 1000) (s : Nat) : ∀ (i k : Nat), i + s = ls.length → s + 1001 < k → laws_eqInt64SS.l0 k ls ls i = some true := by
  induction s with
  | zero =>
    intro i k hi hk
    obtain ⟨k, rfl⟩ : ∃ k', k = k' + 1 := ⟨k - 1, by omega⟩
    rw [laws_eqInt64SS.l0, if_neg (by omega)]
  | succ s ih =>
    intro i k hi hk
    obtain ⟨k, rfl⟩ : ∃ k', k = k' + 1 := ⟨k - 1, by omega⟩
    have hm := hr _ (mem_getD (show i < ls.length by omega))
    rw [laws_eqInt64SS.l0, if_pos (by omega), if_pos (by omega), if_pos (by omega), rdL_at, eqS_is _ (by omega) k (by omega), Option.bind_some, if_pos rfl, w64 (n := (i : Int) + 1) (by omega) (by omega), show (i : Int) + 1 = ((i + 1 : Nat) : Int) by omega]
    exact ih (i + 1) k (by omega) (by omega)
theorem eqSS_is (ls : List (List Int)) (hn : ls.length ≤ 1000) (hr : ∀ r ∈ ls, r.length ≤ 1000) : laws_eqInt64SS.f 3000 ls ls = some true := by
  unfold laws_eqInt64SS.f
  rw [if_pos rfl]
  exact eqSS_loop ls hn hr ls.length 0 3000 (by omega) (by omega)
theorem held_is (n : Nat) (hn : n ≤ 1000) (k : Nat) (hk : n < k) (a : Int) (ha : 0 ≤ a) (hb : a ≤ 1048576) : laws_heldInt64S.f k (marks a n) a = some (a + n) := by
  unfold laws_heldInt64S.f
  exact held64_all laws_heldInt64S.l0 (fun k l a i => by simp only [laws_heldInt64S.l0]) n (by omega) a ha (by omega) k hk
theorem marksLL_length : ∀ (ls : List (List Int)) (a : Int), (marksLL a ls).length = ls.length
  | [], _ => rfl
  | r :: rs, a => by rw [marksLL, List.length_cons, marksLL_length rs, List.length_cons]
theorem heldSS_loop (all : List (List Int)) (hn : all.length ≤ 1000) : ∀ (ls : List (List Int)) (i k : Nat) (a : Int), (∀ r ∈ ls, r.length ≤ 1000) → i + ls.length = all.length → all.drop i = marksLL a ls → 0 ≤ a → a + 1000 * (ls.length : Int) ≤ 1048576 → ls.length + 1001 < k → laws_heldInt64SS.l0 k all a i = some (a + totL ls)
  | [], i, k, a, _, hi, hd, _, _, hk => by
    obtain ⟨k, rfl⟩ : ∃ k', k = k' + 1 := ⟨k - 1, by omega⟩
    simp only [List.length_nil] at hi
    rw [laws_heldInt64SS.l0, if_neg (by omega), totL]
    simp
  | r :: rs, i, k, a, hr, hi, hd, ha, hb, hk => by
    obtain ⟨k, rfl⟩ : ∃ k', k = k' + 1 := ⟨k - 1, by omega⟩
    simp only [List.length_cons] at hi hb hk
    rw [marksLL, drop_cons_of all [] i (by omega)] at hd
    injection hd with hd1 hd2
    have hrl := hr r (by simp)
    have hb' : a + 1000 * ((rs.length : Int) + 1) ≤ 1048576 := by simpa using hb
    rw [laws_heldInt64SS.l0, if_pos (by omega), if_pos (by omega), rdL_at, hd1, held_is r.length hrl k (by omega) a ha (by omega), Option.bind_some, if_neg (by omega), w64 (n := (i : Int) + 1) (by omega) (by omega), show (i : Int) + 1 = ((i + 1 : Nat) : Int) by omega]
    rw [heldSS_loop all hn rs (i + 1) k (a + r.length) (fun q hq => hr q (by simp [hq])) (by omega) hd2 (by omega) (by omega) (by omega), totL]
    congr 1
    omega
theorem heldSS_is (ls : List (List Int)) (hn : ls.length ≤ 100) (hr : ∀ r ∈ ls, r.length ≤ 1000) : laws_heldInt64SS.f 3000 (marksLL 1 ls) 1 = some (1 + totL ls) := by
  unfold laws_heldInt64SS.f
  exact heldSS_loop (marksLL 1 ls) (by rw [marksLL_length]; omega) ls 0 3000 1 hr (by rw [marksLL_length]; omega) rfl (by omega) (by omega) (by omega)
theorem ringL_le (W G : List Int) (f : Nat) : ∀ (met : List Bool) (acc : List Int) (k : Nat), (ringL W G f met acc k).1.length ≤ acc.length + f := by
  induction f with
  | zero => intro met acc k; exact Nat.le_refl _
  | succ f ih =>
    intro met acc k
    rw [ringL]
    split
    · exact Nat.le_add_right _ _
    · refine Nat.le_trans (ih _ _ _) ?_
      simp
      omega
theorem outI_all (W G : List Int) (s : Nat) : ∀ (met : List Bool) (out : List (List Int)) (i : Nat), out.length + s ≤ W.length → (∀ r ∈ out, r.length ≤ W.length + 1) → (outI W G s met out i).length ≤ W.length ∧ ∀ r ∈ outI W G s met out i, r.length ≤ W.length + 1 := by
  induction s with
  | zero => intro met out i hl h; exact ⟨hl, h⟩
  | succ s ih =>
    intro met out i hl h
    rw [outI]
    refine ih _ _ _ ?_ ?_
    · split
      · simp; omega
      · omega
    · split
      · intro r hr
        rcases List.mem_append.1 hr with hr | hr
        · exact h r hr
        · rw [List.mem_singleton.1 hr]
          simpa using ringL_le W G (W.length + 1) met [] i
      · exact h
theorem swapsR_small (l m : List Int) : (swapsR l m).1.length ≤ 9 ∧ ∀ r ∈ (swapsR l m).1, r.length ≤ 10 := by
  unfold swapsR
  split
  · rename_i h
    have h9 := (swapped_facts h).1
    obtain ⟨g1, g2⟩ := outI_all l m l.length (List.replicate l.length false) [] 0 (by simp) (by simp)
    exact ⟨Nat.le_trans g1 h9, fun r hr => Nat.le_trans (g2 r hr) (by omega)⟩
  · simp
theorem totL_small : ∀ ls : List (List Int), (∀ r ∈ ls, r.length ≤ 10) → 0 ≤ totL ls ∧ totL ls ≤ 10 * (ls.length : Int)
  | [], _ => by simp [totL]
  | r :: rs, h => by
    have h1 := totL_small rs (fun q hq => h q (by simp [hq]))
    have h2 := h r (by simp)
    rw [totL, List.length_cons]
    omega
theorem sSwaps_is (l m : List Int) : spec_SwapsFor.f 500 l m = some (swapsR l m) := by
  unfold spec_SwapsFor.f swapsR
  rw [sSwapped_is l m 500 (by omega), Option.bind_some]
  by_cases h : areSwB l m = true
  · rw [if_pos h, if_pos h, sRings_is h 500 (by omega)]
    rfl
  · rw [if_neg h, if_neg h]
theorem iSwapsF_is (l m : List Int) (hl : l.length ≤ 1048576) (hm : m.length ≤ 1048576) : impl_SwapsFor.f l m = some (swapsR l m) := by
  unfold impl_SwapsFor.f
  rw [if_pos ⟨hl, hm⟩]
theorem drawn_below {w w' : World} (h : Drawn0 w w') : Below w.heap.size w w' := by
  obtain ⟨⟨n, rfl⟩⟩ := h
  exact pw_below_drewN (Below.refl _ _) n
theorem bel {w W W2 : World} (h : Below w.heap.size w W) (h2 : Below W.heap.size W W2) : Below w.heap.size w W2 := h.trans (h2.mono h.size)
set_option maxRecDepth 100000 in
set_option maxHeartbeats 8000000 in
theorem lawSwaps_go (A : Option Addr) (c : Nat) (l : List Int) (A1 : Option Addr) (c1 : Nat) (m : List Int) (w : World) (hr : Kd.C (Kd.int .i64) w A l.length l) (hc : l.length ≤ c) (hr1 : Kd.C (Kd.int .i64) w A1 m.length m) (hc1 : m.length ≤ c1) (hl : l.length ≤ 1048576) (hm : m.length ≤ 1048576) :
    Calls Try.prog 3 #[.slice A l.length c, .slice A1 m.length c1] w fun e w' => e = .returned (.bool true) ∧ Below w.heap.size w w' := by
  have T0 : Aside0 (∀ W, Below w.heap.size w W → Calls Try.prog 6 #[.slice A l.length c] W fun e W' => ∃ v, e = .returned v ∧ Kd.R (Kd.int .i64) 2 W' W.heap.size (fun _ => True) v l ∧ Below W.heap.size W W') := ⟨fun W h => laws_toInt64S.calls 1048577 A c l l W (Kd.C_below hr h) hc (toS_is l hl)⟩
  have T1 : Aside0 (∀ W, Below w.heap.size w W → Calls Try.prog 6 #[.slice A1 m.length c1] W fun e W' => ∃ v, e = .returned v ∧ Kd.R (Kd.int .i64) 2 W' W.heap.size (fun _ => True) v m ∧ Below W.heap.size W W') := ⟨fun W h => laws_toInt64S.calls 1048577 A1 c1 m m W (Kd.C_below hr1 h) hc1 (toS_is m hm)⟩
  obtain ⟨rs, code, hsw⟩ : ∃ rs code, swapsR l m = (rs, code) := ⟨_, _, rfl⟩
  have hsm := swapsR_small l m
  rw [hsw] at hsm
  have HN := Aside0.mk (Nat.le_trans hsm.1 (show 9 ≤ 1000 by omega))
  have HN100 := Aside0.mk (Nat.le_trans hsm.1 (show 9 ≤ 100 by omega))
  have HRS : Aside0 (∀ r ∈ rs, r.length ≤ 1000) := ⟨fun r hr => Nat.le_trans (hsm.2 r hr) (by omega)⟩
  have htot := totL_small rs hsm.2
  have hrs9 : rs.length ≤ 9 := hsm.1
  have FS : Aside0 (spec_SwapsFor.f 500 l m = some (rs, code)) := ⟨by rw [← hsw]; exact sSwaps_is l m⟩
  have FI : Aside0 (impl_SwapsFor.f l m = some (rs, code)) := ⟨by rw [← hsw]; exact iSwapsF_is l m hl hm⟩
  have FE := Aside0.mk (eqSS_is rs HN.out HRS.out)
  have FH := Aside0.mk (heldSS_is rs HN100.out HRS.out)
  have hcc : (code != code) = false := by simp
  have hlz : ¬ (1048576 : Int) < (l.length : Int) := by omega
  have hmz : ¬ (1048576 : Int) < (m.length : Int) := by omega
  clear hsw hsm hr hr1
  go_enter Try.func3, Try.ntmps3
  go_wp2_with fail
  refine (T0.out w (Below.refl _ _)).mono ?_
  rintro e w1 ⟨va, rfl, hRa, hb1⟩
  obtain ⟨Aa, ca, rfl, hca, hCa⟩ := Kd.R_reads hRa
  have B1 := Aside0.mk hb1
  have HCa := Aside0.mk hCa
  clear hRa hb1 hCa
  go_wp2_with fail
  refine (T1.out w1 B1.out).mono ?_
  rintro e w2 ⟨vb, rfl, hRb, hb2⟩
  obtain ⟨Ab, cb, rfl, hcb, hCb⟩ := Kd.R_reads hRb
  have B2 := Aside0.mk (bel B1.out hb2)
  have HCa2 := Aside0.mk (Kd.C_below HCa.out hb2)
  have HCb := Aside0.mk hCb
  clear hRb hb2 hCb HCa
  go_wp2_with fail
  refine (spec_SwapsFor.calls 500 Aa ca l Ab cb m rs code w2 HCa2.out hca HCb.out hcb FS.out).mono ?_
  rintro e w3 ⟨vW, rfl, hSW, hb3⟩
  obtain ⟨AW, cW, rfl, hcW, hCW⟩ := Kd.S_reads hSW
  have B3 := Aside0.mk (bel B2.out hb3)
  have HCW := Aside0.mk hCW
  clear hSW hCW hb3 HCa2 HCb B1 B2
  go_wp2_with fail
  refine (T0.out w3 B3.out).mono ?_
  rintro e w4 ⟨vx, rfl, hRx, hb4⟩
  obtain ⟨Ax, cx, rfl, hcx, hCx⟩ := Kd.R_reads hRx
  have B34 := Aside0.mk hb4
  have HX := Aside0.mk hRx
  have HXlt := Aside0.mk (Kd.R_lt hRx)
  clear hRx hCx hb4
  go_wp2_with fail
  refine (T1.out w4 (bel B3.out B34.out)).mono ?_
  rintro e w5 ⟨vy, rfl, hRy, hb5⟩
  obtain ⟨Ay, cy, rfl, hcy, hCy⟩ := Kd.R_reads hRy
  have B35 := Aside0.mk (bel B34.out hb5)
  have HX5 := Aside0.mk (Kd.R_below HX.out hb5)
  have HY := Aside0.mk hRy
  have HYlt := Aside0.mk (Kd.R_lt hRy)
  have h45 : Aside0 (w4.heap.size ≤ w5.heap.size) := ⟨hb5.size⟩
  have h34 : Aside0 (w3.heap.size ≤ w4.heap.size) := ⟨B34.out.size⟩
  clear hRy hCy hb5 HX
  go_wp2_with fail
  refine (impl_SwapsFor.calls Ax cx l Ay cy m rs code w5 (Kd.R_reads' HX5.out).2.2 hcx (Kd.R_reads' HY.out).2.2 hcy FI.out).mono ?_
  rintro e w6 ⟨vG, rfl, hSG, hb6⟩
  obtain ⟨AG, cG, rfl, hcG, hCG⟩ := Kd.S_reads hSG
  have B36 := Aside0.mk (bel B35.out hb6)
  have HX6 := Aside0.mk (Kd.R_below HX5.out hb6)
  have HY6 := Aside0.mk (Kd.R_below HY.out hb6)
  have HG6 := Aside0.mk hSG
  clear hSG hCG hb6 HX5 HY B34 B35
  go_wp2_with fail
  refine (laws_eqInt64SS.calls 3000 AG cG rs AW cW rs true w6 (Kd.S_reads' HG6.out).2.2 hcG (Kd.C_below HCW.out B36.out) hcW FE.out).mono ?_
  rintro e w7 ⟨rfl, hd7⟩
  have hb7 := drawn_below hd7
  have B37 := Aside0.mk (bel B36.out hb7)
  have HX7 := Aside0.mk (Kd.R_below HX6.out hb7)
  have HY7 := Aside0.mk (Kd.R_below HY6.out hb7)
  have HG7 := Aside0.mk (Kd.S_below HG6.out hb7)
  clear hd7 hb7 HX6 HY6 HG6 B36
  go_wp2_with fail
  refine (T0.out w7 (bel B3.out B37.out)).mono ?_
  rintro e w8 ⟨va, rfl, hRa, hb8⟩
  obtain ⟨Aa, ca, rfl, hca, hCa⟩ := Kd.R_reads hRa
  have B38 := Aside0.mk (bel B37.out hb8)
  have HX8 := Aside0.mk (Kd.R_below HX7.out hb8)
  have HY8 := Aside0.mk (Kd.R_below HY7.out hb8)
  have HG8 := Aside0.mk (Kd.S_below HG7.out hb8)
  have HCa := Aside0.mk hCa
  clear hRa hb8 hCa HX7 HY7 HG7 B37
  go_wp2_with fail
  refine (laws_eqInt64S.calls 1048577 Ax cx l Aa ca l true w8 (Kd.R_reads' HX8.out).2.2 hcx HCa.out hca (eqS_is l hl 1048577 (by omega))).mono ?_
  rintro e w9 ⟨rfl, hd⟩
  have hb := drawn_below hd
  have B39 := Aside0.mk (bel B38.out hb)
  have HX9 := Aside0.mk (Kd.R_below HX8.out hb)
  have HY9 := Aside0.mk (Kd.R_below HY8.out hb)
  have HG9 := Aside0.mk (Kd.S_below HG8.out hb)
  clear hd hb HX8 HY8 HG8 B38 HCa
  go_wp2_with fail
  refine (T1.out w9 (bel B3.out B39.out)).mono ?_
  rintro e w10 ⟨va, rfl, hRa, hb⟩
  obtain ⟨Ac, cc, rfl, hcc2, hCa⟩ := Kd.R_reads hRa
  have B310 := Aside0.mk (bel B39.out hb)
  have HX10 := Aside0.mk (Kd.R_below HX9.out hb)
  have HY10 := Aside0.mk (Kd.R_below HY9.out hb)
  have HG10 := Aside0.mk (Kd.S_below HG9.out hb)
  have HCa := Aside0.mk hCa
  clear hRa hb hCa HX9 HY9 HG9 B39
  go_wp2_with fail
  refine (laws_eqInt64S.calls 1048577 Ay cy m Ac cc m true w10 (Kd.R_reads' HY10.out).2.2 hcy HCa.out hcc2 (eqS_is m hm 1048577 (by omega))).mono ?_
  rintro e w11 ⟨rfl, hd⟩
  have hb := drawn_below hd
  have B311 := Aside0.mk (bel B310.out hb)
  have HX11 := Aside0.mk (Kd.R_below HX10.out hb)
  have HY11 := Aside0.mk (Kd.R_below HY10.out hb)
  have HG11 := Aside0.mk (Kd.S_mono (Kd.S_bound (Kd.S_below HG10.out hb)) (ok' := fun k_ => w5.heap.size ≤ k_) (fun _ hk => hk.2.1))
  clear hd hb HX10 HY10 HG10 B310 HCa
  have h35 : Aside0 (w3.heap.size ≤ w5.heap.size) := ⟨Nat.le_trans h34.out h45.out⟩
  have hk2z : ¬ (1 + (l.length : Int) + (m.length : Int) < 0) := by omega
  have htz : ¬ (1 + totL rs < 0) := by omega
  have htt : ((1 + totL rs) != (1 + totL rs)) = false := by simp
  obtain ⟨MS, hMS⟩ : ∃ MS, marksLL 1 rs = MS := ⟨_, rfl⟩
  have hMl : MS.length = rs.length := by rw [← hMS, marksLL_length]
  have HD : Aside0 (∀ W, Kd.C (Kd.slice 2 (Kd.int .i64)) W AG rs.length MS → Calls Try.prog 12 #[.slice AG rs.length cG, .int .i64 1] W fun e w' => e = .returned (.int .i64 (1 + totL rs)) ∧ Drawn0 W w') := ⟨fun W h => by
    rw [← hMl] at h ⊢
    refine laws_heldInt64SS.calls 3000 AG cG MS 1 _ W h (by omega) ?_
    rw [← hMS]
    exact FH.out⟩
  have HMS := Aside0.mk hMS
  clear hMS hMl FH
  go_wp2_with fail
  refine (laws_markInt64S.calls 1048577 (fun k_ => some k_ = (Value.slice Ax l.length cx).ownBlock) _ l 1 _ _ w3 w11 B311.out (Kd.R_tight rfl HX11.out) (markInt64S_is l hl 1048577 (by omega) 1 (by omega) (by omega))).mono ?_
  rintro e w12 ⟨rfl, _, hb12, hk12⟩
  have B312 := Aside0.mk hb12
  have HY12 := Aside0.mk (Kd.R_kept (Kd.R_mono (Kd.R_bound HY11.out) (ok' := fun k_ => w4.heap.size ≤ k_) (fun _ hk => hk.2.1)) hk12 (fun k hk e => by have := HXlt.out k e.symm; omega))
  have HG12 := Aside0.mk (Kd.S_kept HG11.out hk12 (fun k hk e => by have := HXlt.out k e.symm; have := h45.out; omega))
  clear hb12 hk12 HX11 HY11 HG11 B311 HXlt
  go_wp2_with fail
  refine (laws_markInt64S.calls 1048577 (fun k_ => some k_ = (Value.slice Ay m.length cy).ownBlock) _ m (1 + (l.length : Int)) _ _ w3 w12 B312.out (Kd.R_lower (Kd.R_tight rfl HY12.out) h34.out) (markInt64S_is m hm 1048577 (by omega) (1 + (l.length : Int)) (by omega) (by omega))).mono ?_
  rintro e w13 ⟨rfl, _, hb13, hk13⟩
  have B313 := Aside0.mk hb13
  have HG13 := Aside0.mk (Kd.S_kept HG12.out hk13 (fun k hk e => by have := HYlt.out k e.symm; omega))
  clear hb13 hk13 HY12 HG12 B312 HYlt
  go_wp2_with fail
  refine (laws_eqInt64SS.calls 3000 AG cG rs AW cW rs true w13 (Kd.S_reads' HG13.out).2.2 hcG (Kd.C_below HCW.out B313.out) hcW FE.out).mono ?_
  rintro e w14 ⟨rfl, hd⟩
  have hb := drawn_below hd
  have B314 := Aside0.mk (bel B313.out hb)
  have HG14 := Aside0.mk (Kd.S_below HG13.out hb)
  clear hd hb HG13 B313
  go_wp2_with fail
  refine (markSS_is (fun k_ => w5.heap.size ≤ k_) _ rs HN.out HRS.out 1 (by omega) (by omega) w3 w14 B314.out (Kd.S_lower HG14.out h35.out)).mono ?_
  rintro e w15 ⟨rfl, hSG, hb15, hk15⟩
  rw [HMS.out] at hSG
  have hCG : Kd.C (Kd.slice 2 (Kd.int .i64)) w15 AG rs.length MS := (Kd.S_reads' hSG).1 ▸ (Kd.S_reads' hSG).2.2
  have B315 := Aside0.mk hb15
  have HCG := Aside0.mk hCG
  clear hSG hb15 hk15 HG14 B314 hCG
  go_wp2_with fail
  refine (HD.out w15 HCG.out).mono ?_
  rintro e w16 ⟨rfl, hd⟩
  have hb := drawn_below hd
  have B316 := Aside0.mk (bel B315.out hb)
  have HCG16 := Aside0.mk (Kd.C_below HCG.out hb)
  clear hd hb HCG B315
  go_wp2_with fail
  refine (T0.out w16 (bel B3.out B316.out)).mono ?_
  rintro e w17 ⟨va, rfl, hRa, hb⟩
  obtain ⟨Ad, cd, rfl, hcd, hCd⟩ := Kd.R_reads hRa
  have B317 := Aside0.mk (bel B316.out hb)
  have HCG17 := Aside0.mk (Kd.C_below HCG16.out hb)
  have HCd := Aside0.mk hCd
  clear hRa hb hCd HCG16 B316
  go_wp2_with fail
  refine (T1.out w17 (bel B3.out B317.out)).mono ?_
  rintro e w18 ⟨va, rfl, hRa, hb⟩
  obtain ⟨Ae, ce, rfl, hce, hCe⟩ := Kd.R_reads hRa
  have B318 := Aside0.mk (bel B317.out hb)
  have HCG18 := Aside0.mk (Kd.C_below HCG17.out hb)
  have HCd18 := Aside0.mk (Kd.C_below HCd.out hb)
  have HCe := Aside0.mk hCe
  clear hRa hb hCe HCG17 B317 HCd
  go_wp2_with fail
  refine (impl_SwapsFor.calls Ad cd l Ae ce m rs code w18 HCd18.out hcd HCe.out hce FI.out).mono ?_
  rintro e w19 ⟨vH, rfl, hSH, hb⟩
  obtain ⟨AH, cH, rfl, hcH, hCH⟩ := Kd.S_reads hSH
  have B319 := Aside0.mk (bel B318.out hb)
  have HCG19 := Aside0.mk (Kd.C_below HCG18.out hb)
  have HCH := Aside0.mk hCH
  clear hSH hb hCH HCG18 B318 HCd18 HCe
  go_wp2_with fail
  refine (laws_eqInt64SS.calls 3000 AH cH rs AW cW rs true w19 HCH.out hcH (Kd.C_below HCW.out B319.out) hcW FE.out).mono ?_
  rintro e w20 ⟨rfl, hd⟩
  have hb := drawn_below hd
  have B320 := Aside0.mk (bel B319.out hb)
  have HCG20 := Aside0.mk (Kd.C_below HCG19.out hb)
  clear hd hb HCG19 B319
  go_wp2_with fail
  refine (HD.out w20 HCG20.out).mono ?_
  rintro e w21 ⟨rfl, hd⟩
  have hb := drawn_below hd
  have B321 := Aside0.mk (bel B320.out hb)
  clear hd hb HCG20 B320
  go_wp2_with fail
  go_ret
  exact ⟨rfl, bel B3.out B321.out⟩
set_option maxHeartbeats 2000000 in
theorem lawSwaps_is (A : Option Addr) (c : Nat) (l : List Int) (A1 : Option Addr) (c1 : Nat) (m : List Int) (w : World) (hr : Kd.C (Kd.int .i64) w A l.length l) (hc : l.length ≤ c) (hr1 : Kd.C (Kd.int .i64) w A1 m.length m) (hc1 : m.length ≤ c1) :
    Calls Try.prog 3 #[.slice A l.length c, .slice A1 m.length c1] w fun e w' => e = .returned (.bool true) ∧ Below w.heap.size w w' := by
  by_cases hl : l.length ≤ 1048576
  · by_cases hm : m.length ≤ 1048576
    · exact lawSwaps_go A c l A1 c1 m w hr hc hr1 hc1 hl hm
    · have hlz : ¬ (1048576 : Int) < (l.length : Int) := by omega
      have hmz : (1048576 : Int) < (m.length : Int) := by omega
      clear hr hr1
      go_enter Try.func3, Try.ntmps3
      go_wp2_with fail
      go_ret
      exact ⟨rfl, Below.refl _ _⟩
  · have hlz : (1048576 : Int) < (l.length : Int) := by omega
    clear hr hr1
    go_enter Try.func3, Try.ntmps3
    go_wp2_with fail
    go_ret
    exact ⟨rfl, Below.refl _ _⟩
end Go.Proofs.Ytpblkgnmddmheaa.Q
