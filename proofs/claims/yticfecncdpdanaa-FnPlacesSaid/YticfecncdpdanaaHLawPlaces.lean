/- The law FnPlaces, walked by hand: with the facts of PlaceF and ScanF it returns true. -/
import Derived.Test.YticfecncdpdanaaPlaceFacts
import Derived.Lib.QuietBelow
set_option linter.unusedVariables false
set_option linter.unusedSimpArgs false
namespace Go.Proofs.Yticfecncdpdanaa.Q
open Go.RowKit Go.Proofs.YticfecncdpdanaaW.PrintWords Go.Proofs.YticfecncdpdanaaW.PrintLast Go.Proofs.YticfecncdpdanaaW.PrintMore Go.Proofs.Yticfecncdpdanaa.Loops
theorem drawn_below {w w' : World} (h : Drawn0 w w') : Below w.heap.size w w' := by
  obtain ⟨⟨n, rfl⟩⟩ := h
  exact pw_below_drewN (Below.refl _ _) n
theorem bel {w W W2 : World} (h : Below w.heap.size w W) (h2 : Below W.heap.size W W2) : Below w.heap.size w W2 := h.trans (h2.mono h.size)
theorem scan_box (w : World) (T : TypeId) (a b : Int) : (w.alloc (Obj.cells #[.int .i8 a, .int .i16 b] T)).cell? ⟨w.heap.size, 0, none⟩ = some (.int .i8 a) ∧ (w.alloc (Obj.cells #[.int .i8 a, .int .i16 b] T)).cell? ⟨w.heap.size, 1, none⟩ = some (.int .i16 b) ∧ w.heap.size < (w.alloc (Obj.cells #[.int .i8 a, .int .i16 b] T)).heap.size :=
  ⟨by simp, by simp, by simp⟩
/-- The boxes of the net and of the scan. -/
structure Env (g b : Nat) (s t : Int) (ls : List S44) (a0 a1 : Int) (W : World) : Prop where
  net : NetAt g s t ls W
  s0 : W.cell? ⟨b, 0, none⟩ = some (.int .i8 a0)
  s1 : W.cell? ⟨b, 1, none⟩ = some (.int .i16 a1)
  lt : b < W.heap.size
theorem Env.below {g b : Nat} {s t : Int} {ls : List S44} {a0 a1 : Int} {W W2 : World} (h : Env g b s t ls a0 a1 W) (hb : Below W.heap.size W W2) : Env g b s t ls a0 a1 W2 :=
  ⟨h.net.below hb, (hb.cell (p := ⟨b, 0, none⟩) h.lt).trans h.s0, (hb.cell (p := ⟨b, 1, none⟩) h.lt).trans h.s1, Nat.lt_of_lt_of_le h.lt hb.size⟩
/-- What is kept behind the places: the boxes, the two lists. -/
structure SA (w : World) (g b : Nat) (s t : Int) (ls : List S44) (a0 a1 : Int) (AQ : Option Addr) (cQ : Nat) (P : List Int) (AM : Option Addr) (cM : Nat) (L : List Int) (W : World) : Prop where
  bel : Below w.heap.size w W
  env : Env g b s t ls a0 a1 W
  pl : Kd.C (Kd.int .i64) W AQ P.length P
  plc : P.length ≤ cQ
  wy : Kd.C (Kd.int .i64) W AM L.length L
  wyc : L.length ≤ cM
theorem SA.below {w : World} {g b : Nat} {s t : Int} {ls : List S44} {a0 a1 : Int} {AQ : Option Addr} {cQ : Nat} {P : List Int} {AM : Option Addr} {cM : Nat} {L : List Int} {W W2 : World} (h : SA w g b s t ls a0 a1 AQ cQ P AM cM L W) (hb : Below W.heap.size W W2) : SA w g b s t ls a0 a1 AQ cQ P AM cM L W2 :=
  ⟨Q.bel h.bel hb, h.env.below hb, Kd.C_below h.pl hb, h.plc, Kd.C_below h.wy hb, h.wyc⟩
theorem SA.draw {w : World} {g b : Nat} {s t : Int} {ls : List S44} {a0 a1 : Int} {AQ : Option Addr} {cQ : Nat} {P : List Int} {AM : Option Addr} {cM : Nat} {L : List Int} {W W2 : World} (h : SA w g b s t ls a0 a1 AQ cQ P AM cM L W) (hb : Drawn0 W W2) : SA w g b s t ls a0 a1 AQ cQ P AM cM L W2 := h.below (drawn_below hb)
/-- What is kept behind the scans: the boxes, the three lists. -/
structure SB (w : World) (g b : Nat) (s t : Int) (ls : List S44) (a0 a1 : Int) (AD : Option Addr) (cD : Nat) (D : List S31) (AF : Option Addr) (cF : Nat) (F : List Int) (AM : Option Addr) (cM : Nat) (M : List Int) (W : World) : Prop where
  bel : Below w.heap.size w W
  env : Env g b s t ls a0 a1 W
  du : Kd.C k31 W AD D.length D
  duc : D.length ≤ cD
  fa : Kd.C (Kd.int .i64) W AF F.length F
  fac : F.length ≤ cF
  mo : Kd.C (Kd.int .i64) W AM M.length M
  moc : M.length ≤ cM
theorem SB.below {w : World} {g b : Nat} {s t : Int} {ls : List S44} {a0 a1 : Int} {AD : Option Addr} {cD : Nat} {D : List S31} {AF : Option Addr} {cF : Nat} {F : List Int} {AM : Option Addr} {cM : Nat} {M : List Int} {W W2 : World} (h : SB w g b s t ls a0 a1 AD cD D AF cF F AM cM M W) (hb : Below W.heap.size W W2) : SB w g b s t ls a0 a1 AD cD D AF cF F AM cM M W2 :=
  ⟨Q.bel h.bel hb, h.env.below hb, Kd.C_below h.du hb, h.duc, Kd.C_below h.fa hb, h.fac, Kd.C_below h.mo hb, h.moc⟩
theorem SB.draw {w : World} {g b : Nat} {s t : Int} {ls : List S44} {a0 a1 : Int} {AD : Option Addr} {cD : Nat} {D : List S31} {AF : Option Addr} {cF : Nat} {F : List Int} {AM : Option Addr} {cM : Nat} {M : List Int} {W W2 : World} (h : SB w g b s t ls a0 a1 AD cD D AF cF F AM cM M W) (hb : Drawn0 W W2) : SB w g b s t ls a0 a1 AD cD D AF cF F AM cM M W2 := h.below (drawn_below hb)
theorem cells5n {V W : World} {p0 p1 p2 p3 p4 : Addr} {v0 v1 v2 v3 v4 : Value} (q0 : V.cell? p0 = some v0) (q1 : V.cell? p1 = some v1) (q2 : V.cell? p2 = some v2) (q3 : V.cell? p3 = some v3) (q4 : V.cell? p4 = some v4) (hB : Below V.heap.size V W) : W.cell? p0 = some v0 ∧ W.cell? p1 = some v1 ∧ W.cell? p2 = some v2 ∧ W.cell? p3 = some v3 ∧ W.cell? p4 = some v4 ∧ Below V.heap.size V W := ⟨pw_cell_below hB q0, pw_cell_below hB q1, pw_cell_below hB q2, pw_cell_below hB q3, pw_cell_below hB q4, hB⟩
/-- The walk in the order of the text, shut in: nothing looks into it by running it. -/
structure WQ (P : Program) (ops : Array Oper) (C : World → Prop) (Q : Act → Prop) (l : List Oper) (a : Act) : Prop where
  out : wpQuiet P ops C Q l a
theorem WQ.nil {P : Program} {ops : Array Oper} {C : World → Prop} {Q : Act → Prop} {a : Act} (h : Q a) : WQ P ops C Q [] a := ⟨wpQuiet_nil h⟩
theorem WQ.step {P : Program} {ops : Array Oper} {C : World → Prop} {Q : Act → Prop} {a : Act} {o : Oper} {rest : List Oper}
    (h : ∀ K : Act → Prop, (∀ a, WQ P ops C Q rest a → K a) → if Region.wanted o (yielded ops a.tmps) then o.quiet P a C K else K (a.put o.dst undef)) : WQ P ops C Q (o :: rest) a :=
  ⟨wpQuiet_step fun K hK => h K fun a ha => hK a ha.out⟩
theorem any_take_snoc (p : Int → Bool) (H : List Int) (i : Nat) (h : i < H.length) : (H.take (i + 1)).any p = ((H.take i).any p || p (H.getD i 0)) := by
  rw [List.take_add_one, List.any_append, List.getD_eq_getElem?_getD, List.getElem?_eq_getElem h]
  simp
set_option maxRecDepth 100000 in
set_option maxHeartbeats 400000000 in
theorem lawPlaces_go (A : Option Addr) (c : Nat) (y0 : List Int) (A1 : Option Addr) (c1 : Nat) (y1 : List Int) (w : World) (hr : Kd.C (Kd.int .u8) w A y0.length y0) (hc : y0.length ≤ c) (hr1 : Kd.C (Kd.int .u8) w A1 y1.length y1) (hc1 : y1.length ≤ c1) (hl : y0.length ≤ 4096) (hl1 : y1.length ≤ 4096)
    (K : Nat) (s t : Int) (ls : List S44) (hN : spec_P6Net.f K y0 = some (s, t, ls)) (hD : NetD s t ls) (a0 a1 : Int) (hS : spec_P6Scan.f y1 s t ls = some (a0, a1)) (g0 : 0 ≤ a0) (g1 : a0 < s) (g2 : 0 ≤ a1) (g3 : a1 < 12) (v : Int) (hP : spec_P6Pick.f y1 12 = some v) (v0 : 0 ≤ v) (v1 : v < 12)
    (P L : List Int) (PF : PlaceF K s t ls a0 a1 v P L) (X D : List S31) (F M : List Int) (C : List S31) (fine : Bool) (bi bc q lc : Int) (late : Bool) (SF : ScanF K s t ls y0 y1 a1 v X D F M C fine bi bc q lc late)
    (he : Bool) (hCG : impl_CanGo.f s t ls a0 a1 a0 (a1 + v) = some (he, 0)) (hHas : (a1 + v ≤ a1 + t ∨ he = true) → spec_HasNumber.f K P a0 = some true) :
    Calls Try.prog 3 #[.slice A y0.length c, .slice A1 y1.length c1] w fun e w' => e = .returned (.bool true) ∧ Below w.heap.size w w' := by
  have HR := Aside0.mk hr
  have HR1 := Aside0.mk hr1
  have HN := Aside0.mk hN
  have HS := Aside0.mk hS
  have HP := Aside0.mk hP
  have HD := Aside0.mk hD
  have HW1 := Aside0.mk PF.w1
  have HW2 := Aside0.mk PF.w2
  have HCG := Aside0.mk hCG
  have HSP := Aside0.mk PF.sp
  have HSL := Aside0.mk PF.sl
  have HPF := Aside0.mk PF
  have HSF := Aside0.mk SF
  have HHas : Aside0 ((a1 + v ≤ a1 + t ∨ he = true) → spec_HasNumber.f K P a0 = some true) := ⟨hHas⟩
  clear hr hr1 hN hS hP hD hCG hHas PF SF
  have F0 : laws_f6big.f y0 = some false := by unfold laws_f6big.f; rw [decide_eq_false (by omega)]
  have F1 : laws_f6big.f y1 = some false := by unfold laws_f6big.f; rw [decide_eq_false (by omega)]
  have HF0 := Aside0.mk F0
  have HF1 := Aside0.mk F1
  clear F0 F1
  go_enter Try.func3, Try.ntmps3
  go_wp2_with fail
  refine (laws_f6big.calls A c y0 false w HR.out hc HF0.out).mono ?_
  rintro e w1 ⟨rfl, hd⟩
  have B1 := Aside0.mk (drawn_below hd)
  clear hd
  go_wp2_with fail
  refine (laws_f6big.calls A1 c1 y1 false w1 (Kd.C_below HR1.out B1.out) hc1 HF1.out).mono ?_
  rintro e w2 ⟨rfl, hd⟩
  have B2 := Aside0.mk (bel B1.out (drawn_below hd))
  clear hd B1
  go_wp2_with fail
  refine (spec_P6Net.calls K A c y0 s t ls w2 (Kd.C_below HR.out B2.out) hc HN.out).mono ?_
  rintro e w3 ⟨vN, rfl, hRN, hb⟩
  obtain ⟨AN, cN, rfl⟩ := Kd.R_slice hRN
  have HNL := Aside0.mk hRN
  have B3 := Aside0.mk (bel B2.out hb)
  clear hRN hb B2
  go_wp2_with fail
  have hcN : ls.length ≤ cN := (Kd.R_reads' HNL.out).2.1
  have hNA := NetAt.new (s := s) (t := t) (Kd.R_reads' HNL.out).2.2 hcN 28
  obtain ⟨g, hg⟩ : ∃ g, w3.heap.size = g := ⟨_, rfl⟩
  rw [hg] at hNA
  obtain ⟨W, hW⟩ : ∃ W, w3.alloc (Obj.cells #[.int .i8 s, .int .i16 t, .slice AN ls.length cN] 28) = W := ⟨_, rfl⟩
  rw [hW] at hNA
  have HNA := Aside0.mk hNA
  have hCN : Kd.C k44 W AN ls.length ls := by rw [← hW]; exact Kd.C_alloc (Kd.R_reads' HNL.out).2.2 _
  have HCN := Aside0.mk hCN
  have B4 : Aside0 (Below w.heap.size w W) := ⟨by rw [← hW]; exact B3.out.alloc (by have := B3.out.size; omega) _⟩
  have hgW : Aside0 (w.heap.size ≤ g) := ⟨by rw [← hg]; exact B3.out.size⟩
  simp only [hW, hg]
  clear hW hg hNA hCN HNL B3
  refine (spec_P6Scan.calls A1 c1 y1 s t AN cN ls a0 a1 W (Kd.C_below HR1.out B4.out) hc1 HCN.out hcN HS.out).mono ?_
  rintro e w4 ⟨rfl, hb⟩
  have B5 := Aside0.mk (bel B4.out hb)
  have HNA5 := Aside0.mk (HNA.out.below hb)
  clear hb B4 HNA HCN
  go_wp2_with fail
  obtain ⟨b, hb⟩ : ∃ b, w4.heap.size = b := ⟨_, rfl⟩
  obtain ⟨W, hW⟩ : ∃ W, w4.alloc (Obj.cells #[.int .i8 a0, .int .i16 a1] 31) = W := ⟨_, rfl⟩
  have HS0 : Aside0 (W.cell? ⟨b, 0, none⟩ = some (.int .i8 a0) ∧ W.cell? ⟨b, 1, none⟩ = some (.int .i16 a1) ∧ b < W.heap.size) := ⟨by rw [← hW, ← hb]; exact scan_box w4 _ a0 a1⟩
  have HNA6 : Aside0 (NetAt g s t ls W) := ⟨by rw [← hW]; exact HNA5.out.below ((Below.refl _ _).alloc (Nat.le_refl _) _)⟩
  have B6 : Aside0 (Below w.heap.size w W) := ⟨by rw [← hW]; exact B5.out.alloc B5.out.size _⟩
  simp only [hW, hb]
  clear hW hb HNA5 B5
  have hs1 := HS0.out.2.1
  have ecv : IntKind.i64.wrap a1 = a1 := by rw [IntKind.wrap_i64]; omega
  have eh : IntKind.i64.wrap (a1 + v) = a1 + v := by rw [IntKind.wrap_i64]; omega
  have cP' := fun (d : Nat) (os : Array Obj) => Calls.regrown_of (w := W) (d := d) (os := os) (spec_P6Pick.calls A1 c1 y1 12 v _ (Kd.C_below HR1.out (B6.out.trans ((below_regrown W d os).mono B6.out.size))) hc1 HP.out)
  have hs1' := cell_regrown hs1
  clear hs1
  refine wp_region_quiet_below (by kernel_rfl) (by kernel_rfl) ?_
  repeat (quiet_step (first | (go_at_call 7; with_reducible exact cP' _ _)))
  refine wpQuiet_nil ?_
  intro _ hw'
  obtain ⟨⟨dq, osq⟩, hw''⟩ := hw'
  subst hw''
  obtain ⟨W5, hW5⟩ : ∃ W5, Go.Sort.grow (redrawn W dq) osq = W5 := ⟨_, rfl⟩
  have hb5 := below_regrown W dq osq
  rw [hW5] at hb5
  have B7 := Aside0.mk (bel B6.out hb5)
  have EV7 : Aside0 (Env g b s t ls a0 a1 W5) := ⟨(Env.mk HNA6.out HS0.out.1 HS0.out.2.1 HS0.out.2.2).below hb5⟩
  simp only [hW5]
  clear hW5 hb5 cP' hs1' HNA6 HS0 B6 ecv eh
  obtain ⟨AN2, cN2, hcN2, n0, n1, n2, hCN2⟩ := EV7.out.net.out.2
  have s0 := EV7.out.s0
  have s1 := EV7.out.s1
  have HCN2 := Aside0.mk hCN2
  clear hCN2
  go_wp2_with fail
  refine (impl_WhereAt.calls s t AN2 cN2 ls a0 a1 (a1 + v) P L 0 W5 HCN2.out hcN2 HW1.out).mono ?_
  rintro e w6 ⟨vP, vL, rfl, hP1, hL1, hb⟩
  obtain ⟨AP, cP, rfl⟩ := Kd.R_slice hP1
  obtain ⟨AL, cL, rfl⟩ := Kd.R_slice hL1
  have HP1 := Aside0.mk hP1
  have HL1 := Aside0.mk hL1
  have B8 := Aside0.mk (bel B7.out hb)
  have EV8 := Aside0.mk (EV7.out.below hb)
  clear hP1 hL1 hb B7 EV7 n0 n1 n2 s0 s1 HCN2 hcN2
  obtain ⟨AN2, cN2, hcN2, n0, n1, n2, hCN2⟩ := EV8.out.net.out.2
  have s0 := EV8.out.s0
  have s1 := EV8.out.s1
  have HCN2 := Aside0.mk hCN2
  clear hCN2
  go_wp2_with fail
  refine (spec_WhereAt.calls s t AN2 cN2 ls a0 a1 (a1 + v) P L 0 w6 HCN2.out hcN2 HW2.out).mono ?_
  rintro e w7 ⟨vP, vL, rfl, hP2, hL2, hb⟩
  obtain ⟨AQ, cQ, rfl⟩ := Kd.R_slice hP2
  obtain ⟨AM, cM, rfl⟩ := Kd.R_slice hL2
  have HP2 := Aside0.mk hP2
  have HL2 := Aside0.mk hL2
  have HP1' := Aside0.mk (Kd.R_below HP1.out hb)
  have HL1' := Aside0.mk (Kd.R_below HL1.out hb)
  have B9 := Aside0.mk (bel B8.out hb)
  have EV9 := Aside0.mk (EV8.out.below hb)
  clear hP2 hL2 hb B8 EV8 n0 n1 n2 s0 s1 HCN2 hcN2 HP1 HL1
  obtain ⟨AN2, cN2, hcN2, n0, n1, n2, hCN2⟩ := EV9.out.net.out.2
  have s0 := EV9.out.s0
  have s1 := EV9.out.s1
  have HCN2 := Aside0.mk hCN2
  clear hCN2
  go_wp2_with fail
  refine (impl_CanGo.calls s t AN2 cN2 ls a0 a1 a0 (a1 + v) he 0 w7 HCN2.out hcN2 HCG.out).mono ?_
  rintro e w8 ⟨rfl, hb⟩
  have HP1 := Aside0.mk (Kd.R_below HP1'.out hb)
  have HL1 := Aside0.mk (Kd.R_below HL1'.out hb)
  have HP2' := Aside0.mk (Kd.R_below HP2.out hb)
  have HL2' := Aside0.mk (Kd.R_below HL2.out hb)
  have B10 := Aside0.mk (bel B9.out hb)
  have EV10 := Aside0.mk (EV9.out.below hb)
  clear hb B9 EV9 n0 n1 n2 s0 s1 HCN2 hcN2 HP1' HL1' HP2 HL2
  have HSA : Aside0 (SA w g b s t ls a0 a1 AQ cQ P AM cM L w8) := ⟨⟨B10.out, EV10.out, (Kd.R_reads' HP2'.out).2.2, (Kd.R_reads' HP2'.out).2.1, (Kd.R_reads' HL2'.out).2.2, (Kd.R_reads' HL2'.out).2.1⟩⟩
  go_upto_region 9 with fail
  go_cut [151] from 99 to 151 (fun v151 wx => v151 = .bool false ∧ Aside0 (SA w g b s t ls a0 a1 AQ cQ P AM cM L wx))
  case first =>
    as_aux_lemma =>
      go_wp2_with fail
      refine (spec_SameNumbers.calls K _ _ P _ _ P true w8 (Kd.R_reads' HP1.out).2.2 (Kd.R_reads' HP1.out).2.1 HSA.out.pl HSA.out.plc HSP.out).mono ?_
      rintro e w9 ⟨rfl, hd⟩
      have HSA9 := Aside0.mk (HSA.out.draw hd)
      have HL9 := Aside0.mk (Kd.C_below (Kd.R_reads' HL1.out).2.2 (drawn_below hd))
      clear hd
      go_wp2_with fail
      refine (spec_SameNumbers.calls K _ _ L _ _ L true w9 HL9.out (Kd.R_reads' HL1.out).2.1 HSA9.out.wy HSA9.out.wyc HSL.out).mono ?_
      rintro e w10 ⟨rfl, hd⟩
      have HSA10 := Aside0.mk (HSA9.out.draw hd)
      clear hd HSA9 HL9
      have z0 := HSA10.out.env.s0
      have z1 := HSA10.out.env.s1
      obtain ⟨AN2, cN2, hcN2, n0, n1, n2, hCN2⟩ := HSA10.out.env.net.out.2
      have eb : IntKind.i64.wrap (a1 + t) = a1 + t := by rw [IntKind.wrap_i64]; have h1 := HD.out.t0; have h2 := HD.out.t3; omega
      have ea : IntKind.i64.wrap a0 = a0 := by rw [IntKind.wrap_i64]; have h1 := HD.out.s5; omega
      have et : IntKind.i64.wrap t = t := by rw [IntKind.wrap_i64]; have h1 := HD.out.t0; have h2 := HD.out.t3; omega
      have ea1 : IntKind.i64.wrap a1 = a1 := by rw [IntKind.wrap_i64]; omega
      clear hCN2 n2
      have hFin : ∀ W2, Drawn0 w10 W2 → Aside0 (SA w g b s t ls a0 a1 AQ cQ P AM cM L W2) := fun W2 hd => ⟨HSA10.out.draw hd⟩
      have hCall : (a1 + v ≤ a1 + t ∨ he = true) → ∀ W2, SA w g b s t ls a0 a1 AQ cQ P AM cM L W2 → Calls Try.prog 12 #[.slice AQ P.length cQ, .int .i64 a0] W2 fun e w' => e = .returned (.bool true) ∧ Drawn0 W2 w' := fun h W2 hS => spec_HasNumber.calls K _ _ P a0 true W2 hS.pl hS.plc (HHas.out h)
      by_cases hvt : a1 + v ≤ a1 + t
      · have hC := hCall (.inl hvt)
        have HC := Aside0.mk hC
        clear hCall hC
        go_wp2_with fail
        refine (HC.out w10 HSA10.out).mono ?_
        rintro e w11 ⟨rfl, hd⟩
        have HSA11 := Aside0.mk (HSA10.out.draw hd)
        clear hd z0 z1 n0 n1 hFin
        cases he with
        | false =>
          go_wp2_with fail
          go_meet
          exact ⟨rfl, HSA11⟩
        | true =>
          have z0 := HSA11.out.env.s0
          have z1 := HSA11.out.env.s1
          go_wp2_with fail
          refine (HC.out w11 HSA11.out).mono ?_
          rintro e w12 ⟨rfl, hd⟩
          have HSA12 := Aside0.mk (HSA11.out.draw hd)
          clear hd z0 z1
          go_wp2_with fail
          go_meet
          exact ⟨rfl, HSA12⟩
      · cases he with
        | false =>
          clear hCall hFin
          go_wp2_with fail
          go_meet
          exact ⟨rfl, HSA10⟩
        | true =>
          have HC := Aside0.mk (hCall (.inr rfl))
          clear hCall hFin
          go_wp2_with fail
          refine (HC.out w10 HSA10.out).mono ?_
          rintro e w12 ⟨rfl, hd⟩
          have HSA12 := Aside0.mk (HSA10.out.draw hd)
          clear hd z0 z1 n0 n1
          go_wp2_with fail
          go_meet
          exact ⟨rfl, HSA12⟩
  case rest =>
    as_aux_lemma =>
      obtain ⟨rfl, HSA8⟩ := hcut
      clear HSA HP1 HL1 HP2' HL2' B10 EV10 HCG HSP HSL HW1 HW2 HHas HF0 HF1
      obtain ⟨sn, rfl⟩ : ∃ sn : Nat, s = (sn : Int) := ⟨s.toNat, by omega⟩
      have hsn5 : (sn : Int) ≤ 5 := HD.out.s5
      have ht0 := HD.out.t0
      have ht3 := HD.out.t3
      have es : IntKind.i64.wrap (sn : Int) = (sn : Int) := by rw [IntKind.wrap_i64]; omega
      have et : IntKind.i64.wrap t = t := by rw [IntKind.wrap_i64]; omega
      have ea1 : IntKind.i64.wrap a1 = a1 := by rw [IntKind.wrap_i64]; omega
      have ea : IntKind.i64.wrap a0 = a0 := by rw [IntKind.wrap_i64]; omega
      have eb : IntKind.i64.wrap (a1 + t) = a1 + t := by rw [IntKind.wrap_i64]; omega
      go_wp2_with fail
      go_loopg [16] sn (fun gg v16 w' => ∃ x : Nat, x ≤ sn ∧ gg = sn - x ∧ v16 = .int .i64 (x : Int) ∧ Aside0 (SA w g b (sn : Int) t ls a0 a1 AQ cQ P AM cM L w'))
      case atStart => exact ⟨0, by omega, by omega, rfl, HSA8⟩
      case round =>
        as_aux_lemma =>
          obtain ⟨x, hx, hg, rfl, HSAr⟩ := hrel
          obtain ⟨wo, hwo⟩ : ∃ wo : World, wo = wr := ⟨_, rfl⟩
          subst hwo
          obtain ⟨AN2, cN2, hcN2, n0, n1, n2, hCN2⟩ := HSAr.out.env.net.out.2
          have z0 := HSAr.out.env.s0
          have z1 := HSAr.out.env.s1
          have HCN2 := Aside0.mk hCN2
          clear hCN2
          by_cases hlt : x < sn
          · have hltz : (x : Int) < (sn : Int) := by omega
            obtain ⟨H, hH, hHb, hHl, hHas⟩ := HPF.out.arr x hltz
            have HH := Aside0.mk hH
            have HHas := Aside0.mk hHas
            have HHb := Aside0.mk hHb
            clear hH hHas hHb
            go_wp2_with fail
            refine (spec_ArrivalsAt.calls (sn : Int) t AN2 cN2 ls a0 a1 (x : Int) H 0 wo HCN2.out hcN2 HH.out).mono ?_
            rintro e w9 ⟨vH, rfl, hH1, hb⟩
            obtain ⟨AH, cH, rfl⟩ := Kd.R_slice hH1
            have HSA9 := Aside0.mk (HSAr.out.below hb)
            have HHC := Aside0.mk (Kd.R_reads' hH1).2.2
            have hcH := (Kd.R_reads' hH1).2.1
            clear hH1 hb n0 n1 n2 z0 z1 HCN2 hcN2
            go_upto_region 15 with fail
            go_cut [19] from 152 to 217 (fun v19 wx => v19 = .bool (decide ((x : Int) = a0) && decide (a1 + v ≤ a1 + t)) ∧ Aside0 (SA w g b (sn : Int) t ls a0 a1 AQ cQ P AM cM L wx) ∧ Aside0 (Kd.C (Kd.int .i64) wx AH H.length H))
            case first =>
              as_aux_lemma =>
                obtain ⟨AN2, cN2, hcN2, n0, n1, n2, hCN2⟩ := HSA9.out.env.net.out.2
                have z0 := HSA9.out.env.s0
                have z1 := HSA9.out.env.s1
                clear hCN2
                by_cases hxa : (x : Int) = a0
                · by_cases hvt : a1 + v ≤ a1 + t
                  · have q1 : decide ((x : Int) = a0) = true := decide_eq_true hxa
                    have q2 : decide (a1 + v ≤ a1 + t) = true := decide_eq_true hvt
                    have q3 : ((x : Int) == a0) = true := by rw [beq_iff_eq]; exact hxa
                    have QQ : Aside0 (Value.bool true = Value.bool (decide ((x : Int) = a0) && decide (a1 + v ≤ a1 + t))) := ⟨by rw [q1, q2]; rfl⟩
                    clear hxa q1 q2
                    go_wp2_with fail
                    go_meet
                    exact ⟨QQ.out, HSA9, HHC⟩
                  · have q1 : decide ((x : Int) = a0) = true := decide_eq_true hxa
                    have q2 : decide (a1 + v ≤ a1 + t) = false := decide_eq_false hvt
                    have q3 : ((x : Int) == a0) = true := by rw [beq_iff_eq]; exact hxa
                    have QQ : Aside0 (Value.bool false = Value.bool (decide ((x : Int) = a0) && decide (a1 + v ≤ a1 + t))) := ⟨by rw [q1, q2]; rfl⟩
                    clear hxa q1 q2
                    go_wp2_with fail
                    go_meet
                    exact ⟨QQ.out, HSA9, HHC⟩
                · have q1 : decide ((x : Int) = a0) = false := decide_eq_false hxa
                  have q3 : ((x : Int) == a0) = false := by rw [beq_eq_false_iff_ne]; exact hxa
                  have QQ : Aside0 (Value.bool false = Value.bool (decide ((x : Int) = a0) && decide (a1 + v ≤ a1 + t))) := ⟨by rw [q1]; rfl⟩
                  clear hxa q1
                  go_wp2_with fail
                  go_meet
                  exact ⟨QQ.out, HSA9, HHC⟩
            case rest =>
              as_aux_lemma =>
                obtain ⟨rfl, HSAc, HHCc⟩ := hcut
                clear HSA9 HHC
                obtain ⟨i0, hi0⟩ : ∃ i0 : Bool, (decide ((x : Int) = a0) && decide (a1 + v ≤ a1 + t)) = i0 := ⟨_, rfl⟩
                have HI0 := Aside0.mk hi0
                rw [hi0]
                clear hi0
                obtain ⟨n, hn⟩ : ∃ n : Nat, H.length = n := ⟨_, rfl⟩
                have hn3 : n ≤ 301 := by omega
                rw [hn] at hcH
                have HN := Aside0.mk hn
                have HHCd : Aside0 (Kd.C (Kd.int .i64) wc AH n H) := ⟨by rw [← hn]; exact HHCc.out⟩
                rw [hn]
                clear hn hHl HHCc
                go_wp2_with fail
                go_loopg [19, 20] n (fun gg v19 v20 w' => ∃ (i : Nat) (cb : Bool), i ≤ n ∧ gg = n - i ∧ v19 = .bool cb ∧ v20 = .int .i64 (i : Int) ∧ Aside0 (cb = (i0 || (H.take i).any (fun h => decide (h ≤ a1 + v) && decide (a1 + v ≤ h + t)))) ∧ Aside0 (SA w g b (sn : Int) t ls a0 a1 AQ cQ P AM cM L w') ∧ Aside0 (Kd.C (Kd.int .i64) w' AH n H))
                case atStart => exact ⟨0, i0, by omega, by omega, rfl, rfl, ⟨by simp⟩, HSAc, HHCd⟩
                case round =>
                  as_aux_lemma =>
                    obtain ⟨i, cb, hi, hg2, rfl, rfl, HCB, HSAs, HHCs⟩ := hrel
                    by_cases hin : i < n
                    · have hinz : (i : Int) < (n : Int) := by omega
                      obtain ⟨ad, rfl, hx0⟩ := at_int64 HHCs.out i hin
                      have hE := any_take_snoc (fun h => decide (h ≤ a1 + v) && decide (a1 + v ≤ h + t)) H i (by rw [HN.out]; exact hin)
                      have hmem : H.getD i 0 ∈ H := by rw [List.getD_eq_getElem?_getD, List.getElem?_eq_getElem (by rw [HN.out]; exact hin)]; exact List.getElem_mem _
                      have hB := HHb.out _ hmem
                      obtain ⟨hv, hhv⟩ : ∃ hv, H.getD i 0 = hv := ⟨_, rfl⟩
                      rw [hhv] at hx0 hE hB
                      clear hmem hhv
                      have ew : IntKind.i64.wrap (hv + t) = hv + t := by rw [IntKind.wrap_i64]; omega
                      obtain ⟨AN2, cN2, hcN2, n0, n1, n2, hCN2⟩ := HSAs.out.env.net.out.2
                      have HE := Aside0.mk hE
                      clear hCN2 n2 n0 hcN2 hE
                      have HSAn : ∀ q, Aside0 (SA w g b (sn : Int) t ls a0 a1 AQ cQ P AM cM L (wr.drewN q)) := fun q => ⟨HSAs.out.below (pw_below_drewN (Below.refl _ _) q)⟩
                      have HHCn : ∀ q, Aside0 (Kd.C (Kd.int .i64) (wr.drewN q) (some ad) n H) := fun q => ⟨Kd.C_drewN HHCs.out q⟩
                      cases cb with
                      | true =>
                        have HZ : Aside0 (true = (i0 || (H.take (i + 1)).any (fun h => decide (h ≤ a1 + v) && decide (a1 + v ≤ h + t)))) := ⟨by rw [HE.out, ← Bool.or_assoc, ← HCB.out]; rfl⟩
                        clear hB
                        go_wp2
                        go_quiet (fail)
                        go_wp2
                        go_roundg (n - (i + 1))
                        case measure => omega
                        case rel => exact ⟨i + 1, true, by omega, by omega, rfl, by go_num, HZ, HSAn _, HHCn _⟩
                      | false =>
                        by_cases c1 : hv ≤ a1 + v
                        · by_cases c2 : a1 + v ≤ hv + t
                          · have d1 : decide (hv ≤ a1 + v) = true := decide_eq_true c1
                            have d2 : decide (a1 + v ≤ hv + t) = true := decide_eq_true c2
                            have HZ : Aside0 (true = (i0 || (H.take (i + 1)).any (fun h => decide (h ≤ a1 + v) && decide (a1 + v ≤ h + t)))) := ⟨by rw [HE.out, d1, d2]; simp⟩
                            clear c1 c2 hB
                            go_wp2
                            go_quiet (fail)
                            go_wp2
                            go_roundg (n - (i + 1))
                            case measure => omega
                            case rel => exact ⟨i + 1, true, by omega, by omega, rfl, by go_num, HZ, HSAn _, HHCn _⟩
                          · have d1 : decide (hv ≤ a1 + v) = true := decide_eq_true c1
                            have d2 : decide (a1 + v ≤ hv + t) = false := decide_eq_false c2
                            have HZ : Aside0 (false = (i0 || (H.take (i + 1)).any (fun h => decide (h ≤ a1 + v) && decide (a1 + v ≤ h + t)))) := ⟨by rw [HE.out, ← Bool.or_assoc, ← HCB.out, d1, d2]; rfl⟩
                            clear c1 c2 hB
                            go_wp2
                            go_quiet (fail)
                            go_wp2
                            go_roundg (n - (i + 1))
                            case measure => omega
                            case rel => exact ⟨i + 1, false, by omega, by omega, rfl, by go_num, HZ, HSAn _, HHCn _⟩
                        · have d1 : decide (hv ≤ a1 + v) = false := decide_eq_false c1
                          have HZ : Aside0 (false = (i0 || (H.take (i + 1)).any (fun h => decide (h ≤ a1 + v) && decide (a1 + v ≤ h + t)))) := ⟨by rw [HE.out, ← Bool.or_assoc, ← HCB.out, d1]; rfl⟩
                          clear c1 hB
                          go_wp2
                          go_quiet (fail)
                          go_wp2
                          go_roundg (n - (i + 1))
                          case measure => omega
                          case rel => exact ⟨i + 1, false, by omega, by omega, rfl, by go_num, HZ, HSAn _, HHCn _⟩
                    · have hinz : ¬ (i : Int) < (n : Int) := by omega
                      have hin2 : i = n := by omega
                      subst hin2
                      have HCAN : Aside0 (cb = canB t a0 a1 v x H) := ⟨by rw [HCB.out, ← HI0.out, List.take_of_length_le (by rw [HN.out]; omega)]; rfl⟩
                      go_wp2_with fail
                      refine (spec_HasNumber.calls K _ _ P (x : Int) (canB t a0 a1 v x H) wr HSAs.out.pl HSAs.out.plc HHas.out).mono ?_
                      rintro e w10 ⟨rfl, hd⟩
                      have HSAe := Aside0.mk (HSAs.out.draw hd)
                      clear hd
                      rw [← HCAN.out]
                      cases cb with
                      | true =>
                        go_wp2_with fail
                        go_roundg (sn - (x + 1))
                        case measure => omega
                        case rel => exact ⟨x + 1, by omega, by omega, by go_num, HSAe⟩
                      | false =>
                        go_wp2_with fail
                        go_roundg (sn - (x + 1))
                        case measure => omega
                        case rel => exact ⟨x + 1, by omega, by omega, by go_num, HSAe⟩
          · have hltz : ¬ (x : Int) < (sn : Int) := by omega
            have hxn : x = sn := by omega
            subst hxn
            obtain ⟨n, hn⟩ : ∃ n : Nat, L.length = n := ⟨_, rfl⟩
            have HN := Aside0.mk hn
            have hn3 : n ≤ 1000 := by have := HPF.out.wlen; omega
            rw [hn]
            clear hn
            go_wp2_with fail
            go_loopg [21] n (fun gg v21 w' => ∃ i : Nat, i ≤ n ∧ gg = n - i ∧ v21 = .int .i64 (i : Int) ∧ Aside0 (SA w g b (x : Int) t ls a0 a1 AQ cQ P AM cM L w'))
            case atStart => exact ⟨0, by omega, by omega, rfl, HSAr⟩
            case round =>
              as_aux_lemma =>
                obtain ⟨i, hi, hg2, rfl, HSAs⟩ := hrel
                by_cases hin : i < n
                · have hinz : (i : Int) < (n : Int) := by omega
                  have hWY : Kd.C (Kd.int .i64) wr AM n L := by rw [← HN.out]; exact HSAs.out.wy
                  obtain ⟨ad, rfl, hx0⟩ := at_int64 hWY i hin
                  have hmem : L.getD i 0 ∈ L := by rw [List.getD_eq_getElem?_getD, List.getElem?_eq_getElem (by rw [HN.out]; exact hin)]; exact List.getElem_mem _
                  obtain ⟨y0', y1', y2'⟩ := HPF.out.ways _ hmem
                  obtain ⟨yn, hyn⟩ := Int.eq_ofNat_of_zero_le y0'
                  rw [hyn] at hx0 y1' y2'
                  rw [Int.toNat_natCast] at y2'
                  obtain ⟨AN2, cN2, hcN2, n0, n1, n2, hCN2⟩ := HSAs.out.env.net.out.2
                  obtain ⟨ad2, rfl, hz0, hz1, hz2, hz3⟩ := at_T44 hCN2 (yn : Int) (by omega) y1'
                  simp only [rd_T44, Int.toNat_natCast] at hz3
                  obtain ⟨fv, hfv⟩ : ∃ fv, (ls.getD yn z44).f3 = fv := ⟨_, rfl⟩
                  rw [hfv] at hz3 y2'
                  obtain ⟨ln, hln⟩ : ∃ ln : Nat, ls.length = ln := ⟨_, rfl⟩
                  rw [hln] at n2 hcN2 y1'
                  have d1 : decide ((yn : Int) < 0) = false := decide_eq_false (by omega)
                  have d2 : decide ((ln : Int) ≤ (yn : Int)) = false := decide_eq_false (by omega)
                  have d2a : decide (ln ≤ yn) = false := decide_eq_false (by omega)
                  have d2b : decide ((yn : Int) ≥ (ln : Int)) = false := decide_eq_false (by omega)
                  have d2c : decide (yn < ln) = true := decide_eq_true (by omega)
                  have d2d : decide ((yn : Int) < (ln : Int)) = true := decide_eq_true (by omega)
                  have d3 : decide (fv < 2) = false := decide_eq_false (by omega)
                  have HSAn : ∀ q, Aside0 (SA w g b (x : Int) t ls a0 a1 AQ cQ P (some ad) cM L (wr.drewN q)) := fun q => ⟨HSAs.out.below (pw_below_drewN (Below.refl _ _) q)⟩
                  clear hWY hmem y0' hyn hCN2 hz0 hz1 hz2 hfv hln y2' n0 n1
                  go_wp2
                  go_quiet (fail)
                  go_wp2
                  go_roundg (n - (i + 1))
                  case measure => omega
                  case rel => exact ⟨i + 1, by omega, by omega, by go_num, HSAn _⟩
                · have hinz : ¬ (i : Int) < (n : Int) := by omega
                  have B11 := Aside0.mk HSAs.out.bel
                  have EV11 := Aside0.mk HSAs.out.env
                  clear HSAr HSAs HN HPF
                  obtain ⟨AN2, cN2, hcN2, n0, n1, n2, hCN2⟩ := EV11.out.net.out.2
                  have HCN2 := Aside0.mk hCN2
                  clear hCN2
                  go_wp2_with fail
                  refine (spec_P6Scans.calls K A c y0 (x : Int) t AN2 cN2 ls X wr (Kd.C_below HR.out B11.out) hc HCN2.out hcN2 HSF.out.x).mono ?_
                  rintro e x1 ⟨vR, rfl, hR, hb⟩
                  obtain ⟨AX1, cX1, rfl⟩ := Kd.R_slice hR
                  have T1 := Aside0.mk (bel B11.out hb)
                  have T2 := Aside0.mk (EV11.out.below hb)
                  clear B11 EV11
                  have B11 := T1
                  have EV11 := T2
                  clear T1 T2 hb n0 n1 n2 HCN2 hcN2
                  have HX1 := Aside0.mk (Kd.R_reads' hR).2.2
                  have hcX1 := (Kd.R_reads' hR).2.1
                  clear hR
                  obtain ⟨AN2, cN2, hcN2, n0, n1, n2, hCN2⟩ := EV11.out.net.out.2
                  have HCN2 := Aside0.mk hCN2
                  clear hCN2
                  go_wp2_with fail
                  refine (impl_SortScans.calls (x : Int) t AN2 cN2 ls _ _ X D 0 x1 HCN2.out hcN2 HX1.out hcX1 HSF.out.s1).mono ?_
                  rintro e x2 ⟨vR, rfl, hR, hb⟩
                  obtain ⟨AD1, cD1, rfl⟩ := Kd.R_slice hR
                  have T1 := Aside0.mk (Kd.C_below HX1.out hb)
                  clear HX1
                  have HX1 := T1
                  clear T1
                  have T1 := Aside0.mk (bel B11.out hb)
                  have T2 := Aside0.mk (EV11.out.below hb)
                  clear B11 EV11
                  have B11 := T1
                  have EV11 := T2
                  clear T1 T2 hb n0 n1 n2 HCN2 hcN2
                  have HD1 := Aside0.mk (Kd.R_reads' hR).2.2
                  have hcD1 := (Kd.R_reads' hR).2.1
                  clear hR
                  obtain ⟨AN2, cN2, hcN2, n0, n1, n2, hCN2⟩ := EV11.out.net.out.2
                  have HCN2 := Aside0.mk hCN2
                  clear hCN2
                  go_wp2_with fail
                  refine (spec_SortScans.calls (x : Int) t AN2 cN2 ls _ _ X D 0 x2 HCN2.out hcN2 HX1.out hcX1 HSF.out.s2).mono ?_
                  rintro e x3 ⟨vR, rfl, hR, hb⟩
                  obtain ⟨AD2, cD2, rfl⟩ := Kd.R_slice hR
                  have T1 := Aside0.mk (Kd.C_below HX1.out hb)
                  clear HX1
                  have HX1 := T1
                  clear T1
                  have T1 := Aside0.mk (Kd.C_below HD1.out hb)
                  clear HD1
                  have HD1 := T1
                  clear T1
                  have T1 := Aside0.mk (bel B11.out hb)
                  have T2 := Aside0.mk (EV11.out.below hb)
                  clear B11 EV11
                  have B11 := T1
                  have EV11 := T2
                  clear T1 T2 hb n0 n1 n2 HCN2 hcN2
                  have HD2 := Aside0.mk (Kd.R_reads' hR).2.2
                  have hcD2 := (Kd.R_reads' hR).2.1
                  clear hR
                  obtain ⟨AN2, cN2, hcN2, n0, n1, n2, hCN2⟩ := EV11.out.net.out.2
                  have HCN2 := Aside0.mk hCN2
                  clear hCN2
                  go_wp2_with fail
                  refine (impl_CheckScans.calls (x : Int) t AN2 cN2 ls _ _ D fine 0 x3 HCN2.out hcN2 HD2.out hcD2 HSF.out.fi).mono ?_
                  rintro e x4 ⟨rfl, hb⟩
                  have T1 := Aside0.mk (Kd.C_below HX1.out hb)
                  clear HX1
                  have HX1 := T1
                  clear T1
                  have T1 := Aside0.mk (Kd.C_below HD1.out hb)
                  clear HD1
                  have HD1 := T1
                  clear T1
                  have T1 := Aside0.mk (Kd.C_below HD2.out hb)
                  clear HD2
                  have HD2 := T1
                  clear T1
                  have T1 := Aside0.mk (bel B11.out hb)
                  have T2 := Aside0.mk (EV11.out.below hb)
                  clear B11 EV11
                  have B11 := T1
                  have EV11 := T2
                  clear T1 T2 hb n0 n1 n2 HCN2 hcN2
                  obtain ⟨AN2, cN2, hcN2, n0, n1, n2, hCN2⟩ := EV11.out.net.out.2
                  have HCN2 := Aside0.mk hCN2
                  clear hCN2
                  go_wp2_with fail
                  refine (impl_FirstBadScan.calls (x : Int) t AN2 cN2 ls _ _ D bi bc x4 HCN2.out hcN2 HD2.out hcD2 HSF.out.b1).mono ?_
                  rintro e x5 ⟨rfl, hb⟩
                  have T1 := Aside0.mk (Kd.C_below HX1.out hb)
                  clear HX1
                  have HX1 := T1
                  clear T1
                  have T1 := Aside0.mk (Kd.C_below HD1.out hb)
                  clear HD1
                  have HD1 := T1
                  clear T1
                  have T1 := Aside0.mk (Kd.C_below HD2.out hb)
                  clear HD2
                  have HD2 := T1
                  clear T1
                  have T1 := Aside0.mk (bel B11.out hb)
                  have T2 := Aside0.mk (EV11.out.below hb)
                  clear B11 EV11
                  have B11 := T1
                  have EV11 := T2
                  clear T1 T2 hb n0 n1 n2 HCN2 hcN2
                  obtain ⟨AN2, cN2, hcN2, n0, n1, n2, hCN2⟩ := EV11.out.net.out.2
                  have HCN2 := Aside0.mk hCN2
                  clear hCN2
                  go_wp2_with fail
                  refine (spec_FirstBadScan.calls (x : Int) t AN2 cN2 ls _ _ D bi bc x5 HCN2.out hcN2 HD2.out hcD2 HSF.out.b2).mono ?_
                  rintro e x6 ⟨rfl, hb⟩
                  have T1 := Aside0.mk (Kd.C_below HX1.out hb)
                  clear HX1
                  have HX1 := T1
                  clear T1
                  have T1 := Aside0.mk (Kd.C_below HD1.out hb)
                  clear HD1
                  have HD1 := T1
                  clear T1
                  have T1 := Aside0.mk (Kd.C_below HD2.out hb)
                  clear HD2
                  have HD2 := T1
                  clear T1
                  have T1 := Aside0.mk (bel B11.out hb)
                  have T2 := Aside0.mk (EV11.out.below hb)
                  clear B11 EV11
                  have B11 := T1
                  have EV11 := T2
                  clear T1 T2 hb n0 n1 n2 HCN2 hcN2
                  obtain ⟨AN2, cN2, hcN2, n0, n1, n2, hCN2⟩ := EV11.out.net.out.2
                  have HCN2 := Aside0.mk hCN2
                  clear hCN2
                  go_wp2_with fail
                  refine (impl_FalseScans.calls (x : Int) t AN2 cN2 ls _ _ D F 0 x6 HCN2.out hcN2 HD2.out hcD2 HSF.out.f1).mono ?_
                  rintro e x7 ⟨vR, rfl, hR, hb⟩
                  obtain ⟨AF1, cF1, rfl⟩ := Kd.R_slice hR
                  have T1 := Aside0.mk (Kd.C_below HX1.out hb)
                  clear HX1
                  have HX1 := T1
                  clear T1
                  have T1 := Aside0.mk (Kd.C_below HD1.out hb)
                  clear HD1
                  have HD1 := T1
                  clear T1
                  have T1 := Aside0.mk (Kd.C_below HD2.out hb)
                  clear HD2
                  have HD2 := T1
                  clear T1
                  have T1 := Aside0.mk (bel B11.out hb)
                  have T2 := Aside0.mk (EV11.out.below hb)
                  clear B11 EV11
                  have B11 := T1
                  have EV11 := T2
                  clear T1 T2 hb n0 n1 n2 HCN2 hcN2
                  have HF1 := Aside0.mk (Kd.R_reads' hR).2.2
                  have hcF1 := (Kd.R_reads' hR).2.1
                  clear hR
                  obtain ⟨AN2, cN2, hcN2, n0, n1, n2, hCN2⟩ := EV11.out.net.out.2
                  have HCN2 := Aside0.mk hCN2
                  clear hCN2
                  go_wp2_with fail
                  refine (spec_FalseScans.calls (x : Int) t AN2 cN2 ls _ _ D F 0 x7 HCN2.out hcN2 HD2.out hcD2 HSF.out.f2).mono ?_
                  rintro e x8 ⟨vR, rfl, hR, hb⟩
                  obtain ⟨AF2, cF2, rfl⟩ := Kd.R_slice hR
                  have T1 := Aside0.mk (Kd.C_below HX1.out hb)
                  clear HX1
                  have HX1 := T1
                  clear T1
                  have T1 := Aside0.mk (Kd.C_below HD1.out hb)
                  clear HD1
                  have HD1 := T1
                  clear T1
                  have T1 := Aside0.mk (Kd.C_below HD2.out hb)
                  clear HD2
                  have HD2 := T1
                  clear T1
                  have T1 := Aside0.mk (Kd.C_below HF1.out hb)
                  clear HF1
                  have HF1 := T1
                  clear T1
                  have T1 := Aside0.mk (bel B11.out hb)
                  have T2 := Aside0.mk (EV11.out.below hb)
                  clear B11 EV11
                  have B11 := T1
                  have EV11 := T2
                  clear T1 T2 hb n0 n1 n2 HCN2 hcN2
                  have HF2 := Aside0.mk (Kd.R_reads' hR).2.2
                  have hcF2 := (Kd.R_reads' hR).2.1
                  clear hR
                  obtain ⟨AN2, cN2, hcN2, n0, n1, n2, hCN2⟩ := EV11.out.net.out.2
                  have HCN2 := Aside0.mk hCN2
                  clear hCN2
                  go_wp2_with fail
                  refine (impl_MostScans.calls (x : Int) t AN2 cN2 ls _ _ D M 0 x8 HCN2.out hcN2 HD2.out hcD2 HSF.out.m1).mono ?_
                  rintro e x9 ⟨vR, rfl, hR, hb⟩
                  obtain ⟨AM1, cM1, rfl⟩ := Kd.R_slice hR
                  have T1 := Aside0.mk (Kd.C_below HX1.out hb)
                  clear HX1
                  have HX1 := T1
                  clear T1
                  have T1 := Aside0.mk (Kd.C_below HD1.out hb)
                  clear HD1
                  have HD1 := T1
                  clear T1
                  have T1 := Aside0.mk (Kd.C_below HD2.out hb)
                  clear HD2
                  have HD2 := T1
                  clear T1
                  have T1 := Aside0.mk (Kd.C_below HF1.out hb)
                  clear HF1
                  have HF1 := T1
                  clear T1
                  have T1 := Aside0.mk (Kd.C_below HF2.out hb)
                  clear HF2
                  have HF2 := T1
                  clear T1
                  have T1 := Aside0.mk (bel B11.out hb)
                  have T2 := Aside0.mk (EV11.out.below hb)
                  clear B11 EV11
                  have B11 := T1
                  have EV11 := T2
                  clear T1 T2 hb n0 n1 n2 HCN2 hcN2
                  have HM1 := Aside0.mk (Kd.R_reads' hR).2.2
                  have hcM1 := (Kd.R_reads' hR).2.1
                  clear hR
                  obtain ⟨AN2, cN2, hcN2, n0, n1, n2, hCN2⟩ := EV11.out.net.out.2
                  have HCN2 := Aside0.mk hCN2
                  clear hCN2
                  go_wp2_with fail
                  refine (spec_MostScans.calls (x : Int) t AN2 cN2 ls _ _ D M 0 x9 HCN2.out hcN2 HD2.out hcD2 HSF.out.m2).mono ?_
                  rintro e x10 ⟨vR, rfl, hR, hb⟩
                  obtain ⟨AM2, cM2, rfl⟩ := Kd.R_slice hR
                  have T1 := Aside0.mk (Kd.C_below HX1.out hb)
                  clear HX1
                  have HX1 := T1
                  clear T1
                  have T1 := Aside0.mk (Kd.C_below HD1.out hb)
                  clear HD1
                  have HD1 := T1
                  clear T1
                  have T1 := Aside0.mk (Kd.C_below HD2.out hb)
                  clear HD2
                  have HD2 := T1
                  clear T1
                  have T1 := Aside0.mk (Kd.C_below HF1.out hb)
                  clear HF1
                  have HF1 := T1
                  clear T1
                  have T1 := Aside0.mk (Kd.C_below HF2.out hb)
                  clear HF2
                  have HF2 := T1
                  clear T1
                  have T1 := Aside0.mk (Kd.C_below HM1.out hb)
                  clear HM1
                  have HM1 := T1
                  clear T1
                  have T1 := Aside0.mk (bel B11.out hb)
                  have T2 := Aside0.mk (EV11.out.below hb)
                  clear B11 EV11
                  have B11 := T1
                  have EV11 := T2
                  clear T1 T2 hb n0 n1 n2 HCN2 hcN2
                  have HM2 := Aside0.mk (Kd.R_reads' hR).2.2
                  have hcM2 := (Kd.R_reads' hR).2.1
                  clear hR
                  have HSB : Aside0 (SB w g b (x : Int) t ls a0 a1 AD2 cD2 D AF2 cF2 F AM2 cM2 M x10) := ⟨⟨B11.out, EV11.out, HD2.out, hcD2, HF2.out, hcF2, HM2.out, hcM2⟩⟩
                  clear B11 EV11 HX1 hcX1
                  go_upto_region 37 with fail
                  go_cut [409] from 308 to 409 (fun v409 wx => v409 = .bool false ∧ Aside0 (SB w g b (x : Int) t ls a0 a1 AD2 cD2 D AF2 cF2 F AM2 cM2 M wx))
                  case first =>
                    as_aux_lemma =>
                      have e1 : ((D.length : Int) != (X.length : Int)) = false := by rw [HSF.out.dl]; simp
                      have e1a : (D.length != X.length) = false := by rw [HSF.out.dl]; simp
                      have e2 : (bi != bi) = false := by simp
                      have e2a : (bc != bc) = false := by simp
                      have e2b : (bc == 6) = fine := by rcases HSF.out.bf with ⟨h1, h2⟩ | ⟨h1, h2⟩ <;> rw [h1, h2] <;> rfl
                      have e3 : ((M.length : Int) == (D.length : Int)) = fine := by
                        have h := HSF.out.fm
                        by_cases h1 : M.length = D.length
                        · rw [h.2 h1, h1]; simp
                        · have h2 : fine = false := by cases hf : fine with | true => exact absurd (h.1 hf) h1 | false => rfl
                          rw [h2, beq_eq_false_iff_ne]; omega
                      go_wp2_with fail
                      refine (spec_SameScans.calls K _ _ D _ _ D true x10 HD1.out hcD1 HSB.out.du HSB.out.duc HSF.out.ss).mono ?_
                      rintro e x11 ⟨rfl, hd⟩
                      have HF1' := Aside0.mk (Kd.C_below HF1.out (drawn_below hd))
                      have HM1' := Aside0.mk (Kd.C_below HM1.out (drawn_below hd))
                      have HSB1 := Aside0.mk (HSB.out.draw hd)
                      clear hd HF1 HM1 HSB HD1 HD2 HF2 HM2
                      go_wp2_with fail
                      refine (spec_SameNumbers.calls K _ _ F _ _ F true x11 HF1'.out hcF1 HSB1.out.fa HSB1.out.fac HSF.out.sf).mono ?_
                      rintro e x12 ⟨rfl, hd⟩
                      have HM2' := Aside0.mk (Kd.C_below HM1'.out (drawn_below hd))
                      have HSB2 := Aside0.mk (HSB1.out.draw hd)
                      clear hd HF1' HM1' HSB1
                      go_wp2_with fail
                      refine (spec_SameNumbers.calls K _ _ M _ _ M true x12 HM2'.out hcM1 HSB2.out.mo HSB2.out.moc HSF.out.sm).mono ?_
                      rintro e x13 ⟨rfl, hd⟩
                      have HSB3 := Aside0.mk (HSB2.out.draw hd)
                      clear hd HM2' HSB2
                      have hdl : D.length ≤ 4 := by have := HSF.out.xl; have := HSF.out.dl; omega
                      have hml := HSF.out.ml
                      have hfl := HSF.out.fl
                      have ew : IntKind.i64.wrap ((D.length : Int) - 1) = (D.length : Int) - 1 := by rw [IntKind.wrap_i64]; omega
                      by_cases hfp : 0 < F.length
                      · have hless := HSF.out.less hfp
                        have q1 : (0 : Int) < (F.length : Int) := by omega
                        have q1a : decide ((0 : Int) < (F.length : Int)) = true := decide_eq_true q1
                        have q2 : ¬ (M.length : Int) < (D.length : Int) - 1 := by omega
                        have q2a : decide ((M.length : Int) < (D.length : Int) - 1) = false := decide_eq_false q2
                        by_cases hdp : 0 < D.length
                        · have hpos := HSF.out.pos hdp
                          have q3 : (0 : Int) < (D.length : Int) := by omega
                          have q3a : decide ((0 : Int) < (D.length : Int)) = true := decide_eq_true q3
                          have q4 : ((M.length : Int) == 0) = false := by rw [beq_eq_false_iff_ne]; omega
                          clear hpos hdp hfp hdl hml hfl hless
                          go_wp2_with fail
                          go_meet
                          exact ⟨rfl, HSB3⟩
                        · have q3 : ¬ (0 : Int) < (D.length : Int) := by omega
                          have q3a : decide ((0 : Int) < (D.length : Int)) = false := decide_eq_false q3
                          clear hdp hfp hdl hml hfl hless
                          go_wp2_with fail
                          go_meet
                          exact ⟨rfl, HSB3⟩
                      · have q1 : ¬ (0 : Int) < (F.length : Int) := by omega
                        have q1a : decide ((0 : Int) < (F.length : Int)) = false := decide_eq_false q1
                        by_cases hdp : 0 < D.length
                        · have hpos := HSF.out.pos hdp
                          have q3 : (0 : Int) < (D.length : Int) := by omega
                          have q3a : decide ((0 : Int) < (D.length : Int)) = true := decide_eq_true q3
                          have q4 : ((M.length : Int) == 0) = false := by rw [beq_eq_false_iff_ne]; omega
                          clear hpos hdp hfp hdl hml hfl
                          go_wp2_with fail
                          go_meet
                          exact ⟨rfl, HSB3⟩
                        · have q3 : ¬ (0 : Int) < (D.length : Int) := by omega
                          have q3a : decide ((0 : Int) < (D.length : Int)) = false := decide_eq_false q3
                          clear hdp hfp hdl hml hfl
                          go_wp2_with fail
                          go_meet
                          exact ⟨rfl, HSB3⟩
                  case rest =>
                    as_aux_lemma =>
                      obtain ⟨rfl, HSBc⟩ := hcut
                      clear HSB HD1 HD2 HF1 HF2 HM1 HM2 hcD1 hcF1 hcM1
                      obtain ⟨V, hV⟩ : ∃ V : World, V = wc := ⟨_, rfl⟩
                      subst hV
                      obtain ⟨mn, hmn⟩ : ∃ mn : Nat, M.length = mn := ⟨_, rfl⟩
                      have HMN := Aside0.mk hmn
                      have hm4 : mn ≤ 4 := by have h1 := HSF.out.ml; have h2 := HSF.out.dl; have h3 := HSF.out.xl; omega
                      have hmo : mn ≤ cM2 := by have := HSBc.out.moc; omega
                      have HCL : Aside0 (C.length = mn) := ⟨by rw [HSF.out.c, List.length_map, hmn]⟩
                      rw [hmn]
                      have HE0 : Aside0 (Kd.R k31 31 (V.alloc (.cells #[] 31)) V.heap.size (fun _ => True) (.slice (some ⟨V.heap.size, 0, none⟩) 0 0) ([] : List S31)) := ⟨R_empty k31 31 V V.heap.size _ _ rfl (Nat.le_refl _) trivial⟩
                      have HB0 : Aside0 (Below V.heap.size V (V.alloc (.cells #[] 31))) := ⟨(Below.refl _ _).alloc (Nat.le_refl _) _⟩
                      clear hmn
                      go_wp2_with fail
                      go_loopg [41, 42] mn (fun gg v41 v42 w' => ∃ i : Nat, i ≤ mn ∧ gg = mn - i ∧ v42 = .int .i64 (i : Int) ∧ Aside0 (Kd.R k31 31 w' V.heap.size (fun _ => True) v41 (C.take i)) ∧ Aside0 (Below V.heap.size V w'))
                      case atStart => exact ⟨0, by omega, by omega, rfl, HE0, HB0⟩
                      case round =>
                        as_aux_lemma =>
                          obtain ⟨i, hi, hg2, rfl, HRc, HBr⟩ := hrel
                          have HSBr := Aside0.mk (HSBc.out.below HBr.out)
                          by_cases hin : i < mn
                          · have hinz : (i : Int) < (mn : Int) := by omega
                            obtain ⟨k, hk, hkd⟩ := HSF.out.low i (by rw [HMN.out]; exact hin)
                            have hMO : Kd.C (Kd.int .i64) wr AM2 mn M := by rw [← HMN.out]; exact HSBr.out.mo
                            obtain ⟨adm, rfl, hx0⟩ := at_int64 hMO i hin
                            rw [hk] at hx0
                            obtain ⟨add_, hAD, hz0, hz1⟩ := at_T31 HSBr.out.du (k : Int) (by omega) (by omega)
                            subst hAD
                            simp only [rd_T31, Int.toNat_natCast] at hz0 hz1
                            have HCS : Aside0 (C.take i ++ [D.getD k z31] = C.take (i + 1)) := ⟨by
                              have hCi : C.getD i z31 = D.getD k z31 := by
                                rw [HSF.out.c, List.getD_eq_getElem?_getD, List.getElem?_map, List.getElem?_eq_getElem (by rw [HMN.out]; exact hin)]
                                rw [List.getD_eq_getElem?_getD, List.getElem?_eq_getElem (by rw [HMN.out]; exact hin)] at hk
                                simp only [Option.getD_some] at hk
                                simp only [Option.map_some, Option.getD_some, hk, Int.toNat_natCast]
                              rw [List.take_add_one, ← hCi, List.getD_eq_getElem?_getD, List.getElem?_eq_getElem (by rw [HCL.out]; exact hin)]
                              rfl⟩
                            have HKL : (C.take i).length ≤ 4 := by rw [List.length_take, HCL.out]; omega
                            obtain ⟨sc, hsc⟩ : ∃ sc, D.getD k z31 = sc := ⟨_, rfl⟩
                            rw [hsc] at hz0 hz1 HCS
                            obtain ⟨c0, c1'⟩ := sc
                            have hkz : (k : Int) < (D.length : Int) := by omega
                            have hsz := HBr.out.size
                            clear hsc hk hMO
                            go_wp2_with (at_builtin; refine Kd.R_append k31 (w0 := V) V.heap.size rfl (.tmp 417) (.tmp 425) 45 31 (.agg #[(.int .i8 0), (.int .i16 0)]) 4 rfl Try.underlying45 info31 rfl (by decide) (by omega) _ (C.take i) (⟨c0, c1'⟩ : S31) [.int .i8 c0, .int .i16 c1'] (fun _ => True) (fun _ => False) rfl rfl (k31_mkM _ _ _ _) (fun _ hk => hk.elim) (fun _ _ => trivial) HRc.out HBr.out hsz (by omega) ?_; intro v1 w1 hO1 hB1 hg1 hat1)
                            rw [HCS.out] at hO1
                            have HO1 := Aside0.mk hO1
                            have HB1 := Aside0.mk hB1
                            clear hO1 hB1 hg1 hat1 hz0 hz1 hx0
                            go_wp2
                            go_roundg (mn - (i + 1))
                            case measure => omega
                            case rel => exact ⟨i + 1, by omega, by omega, by go_num, HO1, HB1⟩
                          · have hinz : ¬ (i : Int) < (mn : Int) := by omega
                            have HRC : Aside0 (Kd.R k31 31 wr V.heap.size (fun _ => True) u41 C) := ⟨by have := HRc.out; rwa [List.take_of_length_le (by rw [HCL.out]; omega)] at this⟩
                            obtain ⟨AC, cC, rfl⟩ := Kd.R_slice HRC.out
                            have hcC := (Kd.R_reads' HRC.out).2.1
                            have HCC := Aside0.mk (Kd.R_reads' HRC.out).2.2
                            obtain ⟨AN2, cN2, hcN2, n0, n1, n2, hCN2⟩ := HSBr.out.env.net.out.2
                            have HCN2 := Aside0.mk hCN2
                            clear HRc HRC HSBc HBr hCN2
                            go_wp2_with fail
                            refine (impl_CheckScans.calls (x : Int) t AN2 cN2 ls _ _ C true 0 wr HCN2.out hcN2 HCC.out hcC HSF.out.ok).mono ?_
                            rintro e y1w ⟨rfl, hb⟩
                            have HSB2 := Aside0.mk (HSBr.out.below hb)
                            have HCC2 := Aside0.mk (Kd.C_below HCC.out hb)
                            clear hb HSBr HCC n0 n1 n2 HCN2 hcN2
                            have hdl4 : D.length ≤ 4 := by have h2 := HSF.out.dl; have h3 := HSF.out.xl; omega
                            have hdc := HSB2.out.duc
                            go_wp2_with fail
                            go_loopg [45] D.length (fun gg v45 w' => ∃ i : Nat, i ≤ D.length ∧ gg = D.length - i ∧ v45 = .int .i64 (i : Int) ∧ Aside0 (SB w g b (x : Int) t ls a0 a1 AD2 cD2 D AF2 cF2 F AM2 cM2 M w') ∧ Aside0 (Kd.C k31 w' AC C.length C))
                            case atStart => exact ⟨0, by omega, by omega, rfl, HSB2, HCC2⟩
                            case round =>
                              as_aux_lemma =>
                                obtain ⟨kk, hkk, hg3, rfl, HSBr, HCCr⟩ := hrel
                                by_cases hlt : kk < D.length
                                · have hltz : (kk : Int) < (D.length : Int) := by omega
                                  obtain ⟨r, hr1, hr2⟩ := HSF.out.each kk hlt
                                  obtain ⟨EL, hEL⟩ : ∃ EL, D.take kk ++ D.drop (kk + 1) = EL := ⟨_, rfl⟩
                                  rw [hEL] at hr1
                                  have HRR := Aside0.mk hr1
                                  have HRH := Aside0.mk hr2
                                  have e1 : IntKind.i64.wrap ((kk : Int) + 1) = (kk : Int) + 1 := IntWalk.i64_in _ (by omega)
                                  have hbr : Below wr.heap.size wr wr := Below.refl _ _
                                  have hkc : (kk : Int) ≤ (cD2 : Int) := by omega
                                  have hkn : (kk : Int) + 1 ≤ (D.length : Int) := by omega
                                  obtain ⟨i0, hi0, hzz⟩ := Option.map_eq_some_iff.1 info31
                                  simp only [Prod.mk.injEq] at hzz
                                  obtain ⟨AE, hAE⟩ : ∃ AE, AE = (if cD2 = kk + 1 then AD2 else AD2.map (·.add ((kk + 1) * 2))) := ⟨_, rfl⟩
                                  have hsl : ∀ V, (Instr.slice 45 (.slice AD2 D.length cD2) (some (.int .i64 ((kk : Int) + 1))) none none).run Try.prog V = .ok (.slice AE (D.length - (kk + 1)) (cD2 - (kk + 1))) V := by
                                    intro V
                                    rw [cut_from 45 31 .i64 Try.underlying45 hi0 2 hzz.2.1 AD2 D.length cD2 ((kk : Int) + 1) (by omega) hkn, show ((kk : Int) + 1).toNat = kk + 1 by omega, hAE]
                                  have HCT : Aside0 (∀ V, Below wr.heap.size wr V → Kd.C k31 V AD2 kk (D.take kk)) := ⟨fun V hV => by
                                    have := Kd.C_take (Kd.C_below HSBr.out.du hV) (m := kk) (by omega)
                                    rwa [List.length_take, Nat.min_eq_left (by omega)] at this⟩
                                  have HCD : Aside0 (∀ V, Below wr.heap.size wr V → Kd.C k31 V AE (D.length - (kk + 1)) (D.drop (kk + 1))) := ⟨fun V hV => by
                                    have := Kd.C_drop (Kd.C_below HSBr.out.du hV) (m := kk + 1) (c := cD2) (by omega) hdc
                                    rw [List.length_drop] at this
                                    rw [hAE]
                                    exact this⟩
                                  have HEI : Aside0 (([] ++ D.take kk) ++ D.drop (kk + 1) = EL) := ⟨hEL⟩
                                  clear hEL hr1 hr2
                                  have HE1 : Aside0 (Kd.R k31 31 (wr.drew.alloc (.cells #[] 31)) wr.heap.size (fun _ => True) (.slice (some ⟨wr.heap.size, 0, none⟩) 0 0) ([] : List S31)) := ⟨R_empty k31 31 wr.drew wr.heap.size _ _ rfl (Nat.le_refl _) trivial⟩
                                  have hB22 : Below wr.heap.size wr (wr.drew.alloc (.cells #[] 31)) := hbr.drew.alloc (Nat.le_refl _) _
                                  have hlk : (D.take kk).length = kk := by rw [List.length_take]; omega
                                  obtain ⟨AN2, cN2, hcN2, n0, n1, n2, hCN2⟩ := HSBr.out.env.net.out.2
                                  have HCN2 := Aside0.mk hCN2
                                  have HW45 : ∃ wq : World, wq = wr := ⟨_, rfl⟩
                                  clear hAE hzz hi0 hCN2 HW45
                                  go_upto_region 50 with fail
                                  go_cut [46, 47] from 439 to 486 (fun v46 v47 wx => v46 = .bool r ∧ v47 = .int .i64 0 ∧ Aside0 (Below wr.heap.size wr wx))
                                  case first =>
                                    as_aux_lemma =>
                                      go_region_held_law (fun w' => w'.cell? ⟨g, 0, none⟩ = some (.int .i8 (x : Int)) ∧ w'.cell? ⟨g, 1, none⟩ = some (.int .i16 t) ∧ w'.cell? ⟨g, 2, none⟩ = some (.slice AN2 ls.length cN2) ∧ Below wr.heap.size wr w')
                                        ((refine cells3n n0 n1 n2 ?_; (try go_split_ands); first | exact hB32 | exact hB31 | exact hB26 | exact hB22 | exact hbr.drew | assumption))
                                        (first
                                          | (refine Kd.R_append_rows_step k31 (w0 := wr) wr.heap.size (by kernel_rfl) (.tmp 447) (.tmp 450) 45 31 (.agg #[.int .i8 0, .int .i16 0]) 4 rfl Try.underlying45 info31 rfl (by decide) (by omega) (.slice (some ⟨wr.heap.size, 0, none⟩) 0 0) ([] : List S31) (D.take kk) AD2 kk cD2 (fun _ => True) (fun _ => False) (by kernel_rfl) (by kernel_rfl) HE1.out (HCT.out _ hB22) (fun _ _ h => h) (fun _ h => h.elim) (fun _ _ => trivial) hB22 (by simp) (by simp; omega) ?_; intro v26 w26 hO26 hB26 hg26 hat26)
                                          | (refine Kd.R_append_rows_step k31 (w0 := wr) wr.heap.size (by kernel_rfl) (.tmp 451) (.tmp 455) 45 31 (.agg #[.int .i8 0, .int .i16 0]) 4 rfl Try.underlying45 info31 rfl (by decide) (by omega) v26 ([] ++ D.take kk) (D.drop (kk + 1)) AE (D.length - (kk + 1)) (cD2 - (kk + 1)) (fun _ => True) (fun _ => False) (by kernel_rfl) (by kernel_rfl) hO26 (HCD.out _ hB26) (fun _ _ h => h) (fun _ h => h.elim) (fun _ _ => trivial) hB26 hB26.size (by rw [List.nil_append, hlk]; omega) ?_; intro v31 w31 hO31 hB31 hg31 hat31; rw [HEI.out] at hO31; obtain ⟨A31, c31, rfl, hc31, hC31⟩ := Kd.R_reads hO31)
                                          | (go_at_call 17; refine (impl_CheckScans.calls (x : Int) t AN2 cN2 ls A31 c31 EL r 0 _ (Kd.C_below HCN2.out hB31) hcN2 hC31 hc31 HRR.out).mono ?_; rintro e w32 ⟨rfl, hb32⟩; have hB32 : Below wr.heap.size wr w32 := hB31.trans (hb32.mono hB31.size)))
                                      go_wp2_with fail
                                      go_meet
                                      exact ⟨rfl, rfl, ⟨hB32⟩⟩
                                  case rest =>
                                    as_aux_lemma =>
                                      obtain ⟨rfl, rfl, HB46⟩ := hcut
                                      have HSB3 := Aside0.mk (HSBr.out.below HB46.out)
                                      have HCC3 := Aside0.mk (Kd.C_below HCCr.out HB46.out)
                                      clear HSBr HCCr HB46 HCT HCD HE1 hB22 hbr n0 n1 n2 HCN2 hcN2 hsl
                                      go_upto_region 51 with fail
                                      go_cut [486] from 439 to 486 (fun v486 wx => v486 = .bool false ∧ Aside0 (Below wc.heap.size wc wx))
                                      case first =>
                                        as_aux_lemma =>
                                          have cH' := fun (d : Nat) (os : Array Obj) => Calls.regrown_of (w := wc) (d := d) (os := os) ((spec_HasNumber.calls K AF2 cF2 F (kk : Int) r _ (Kd.C_below HSB3.out.fa (below_regrown wc d os)) HSB3.out.fac HRH.out).mono fun e w' h => ⟨h.1, drawn_below h.2⟩)
                                          have e0 : (r != r) = false := by simp
                                          have e0' : (r = r) = True := by simp
                                          rcases Nat.eq_zero_or_pos kk with hk0 | hkp
                                          · have d0 : decide ((0 : Int) < (kk : Int)) = false := decide_eq_false (by omega)
                                            have d0n : decide (0 < kk) = false := decide_eq_false (by omega)
                                            clear hk0
                                            refine wp_region_quiet_below (by kernel_rfl) (by kernel_rfl) (WQ.out ?_)
                                            iterate 6 (refine WQ.step (fun K hK => ?_); go_simp; refine hK _ ?_; clear hK K)
                                            refine WQ.step (fun K hK => ?_)
                                            go_simp
                                            apply Exists.intro
                                            refine ⟨fun _ => ?_, hK _ ?_⟩
                                            ((go_at_call 12; exact cH' _ _))
                                            clear hK K
                                            iterate 20 (refine WQ.step (fun K hK => ?_); go_simp; refine hK _ ?_; clear hK K)
                                            refine WQ.nil ?_
                                            intro _ hw'
                                            obtain ⟨⟨dq, osq⟩, hw''⟩ := hw'
                                            subst hw''
                                            go_wp2
                                            go_meet
                                            exact ⟨rfl, ⟨below_regrown wc dq osq⟩⟩
                                          · obtain ⟨j, hj⟩ : ∃ j, kk = j + 1 := ⟨kk - 1, by omega⟩
                                            obtain ⟨ad1, hA1, p0, p1⟩ := at_T31 HSB3.out.du (kk : Int) (by omega) (by omega)
                                            obtain ⟨ad2, hA2, q0, q1⟩ := at_T31 HSB3.out.du (j : Int) (by omega) (by omega)
                                            rw [hA1] at hA2
                                            cases hA2
                                            subst hA1
                                            simp only [rd_T31, Int.toNat_natCast] at p1 q1
                                            have hris := HSF.out.ris j (by omega)
                                            rw [← hj] at hris
                                            obtain ⟨fa, hfa⟩ : ∃ fa, (D.getD j z31).f1 = fa := ⟨_, rfl⟩
                                            obtain ⟨fb, hfb⟩ : ∃ fb, (D.getD kk z31).f1 = fb := ⟨_, rfl⟩
                                            rw [hfa, hfb] at hris
                                            rw [hfb] at p1
                                            rw [hfa] at q1
                                            have d0 : decide ((0 : Int) < (kk : Int)) = true := decide_eq_true (by omega)
                                            have d0n : decide (0 < kk) = true := decide_eq_true (by omega)
                                            have d1 : decide (fb < fa) = false := decide_eq_false (by omega)
                                            have ej : IntKind.i64.wrap ((kk : Int) - 1) = (j : Int) := by rw [IntKind.wrap_i64]; omega
                                            have hjz : (j : Int) < (D.length : Int) := by omega
                                            clear hj
                                            have p1' := cell_regrown p1
                                            have q1' := cell_regrown q1
                                            clear p0 q0 p1 q1 hfa hfb hris hkp
                                            refine wp_region_quiet_below (by kernel_rfl) (by kernel_rfl) ?_
                                            repeat (quiet_step (first | (go_at_call 12; exact cH' _ _)))
                                            refine wpQuiet_nil ?_
                                            intro _ hw'
                                            obtain ⟨⟨dq, osq⟩, hw''⟩ := hw'
                                            subst hw''
                                            go_wp2
                                            go_meet
                                            exact ⟨rfl, ⟨below_regrown wc dq osq⟩⟩
                                      case rest =>
                                        as_aux_lemma =>
                                          obtain ⟨rfl, HB48⟩ := hcut
                                          have HSB4 := Aside0.mk (HSB3.out.below HB48.out)
                                          have HCC4 := Aside0.mk (Kd.C_below HCC3.out HB48.out)
                                          clear HSB3 HCC3 HB48
                                          go_wp2
                                          go_roundg (D.length - (kk + 1))
                                          case measure => omega
                                          case rel => exact ⟨kk + 1, by omega, by omega, by go_num, HSB4, HCC4⟩
                                · have hltz : ¬ (kk : Int) < (D.length : Int) := by omega
                                  clear HSB2 HCC2
                                  obtain ⟨AN2, cN2, hcN2, n0, n1, n2, hCN2⟩ := HSBr.out.env.net.out.2
                                  have HCN2 := Aside0.mk hCN2
                                  clear hCN2
                                  go_wp2_with fail
                                  refine (spec_P6Pick.calls A1 c1 y1 (x : Int) q wr (Kd.C_below HR1.out HSBr.out.bel) hc1 HSF.out.pk).mono ?_
                                  rintro e z1w ⟨rfl, hb⟩
                                  have HSB3 := Aside0.mk (HSBr.out.below hb)
                                  have HCC3 := Aside0.mk (Kd.C_below HCCr.out hb)
                                  clear hb HSBr HCCr n0 n1 n2 HCN2 hcN2
                                  obtain ⟨AN2, cN2, hcN2, n0, n1, n2, hCN2⟩ := HSB3.out.env.net.out.2
                                  have HCN2 := Aside0.mk hCN2
                                  clear hCN2
                                  go_wp2_with fail
                                  refine (impl_IsLate.calls (x : Int) t AN2 cN2 ls AC cC C q (a1 + v) late lc z1w HCN2.out hcN2 HCC3.out hcC HSF.out.l1).mono ?_
                                  rintro e z2w ⟨rfl, hb⟩
                                  have HSB4 := Aside0.mk (HSB3.out.below hb)
                                  have HCC4 := Aside0.mk (Kd.C_below HCC3.out hb)
                                  clear hb HSB3 HCC3 n0 n1 n2 HCN2 hcN2
                                  obtain ⟨AN2, cN2, hcN2, n0, n1, n2, hCN2⟩ := HSB4.out.env.net.out.2
                                  have HCN2 := Aside0.mk hCN2
                                  clear hCN2
                                  go_wp2_with fail
                                  refine (spec_IsLate.calls (x : Int) t AN2 cN2 ls AC cC C q (a1 + v) late lc z2w HCN2.out hcN2 HCC4.out hcC HSF.out.l2).mono ?_
                                  rintro e z3w ⟨rfl, hb⟩
                                  have HSB5 := Aside0.mk (HSB4.out.below hb)
                                  have HCC5 := Aside0.mk (Kd.C_below HCC4.out hb)
                                  clear hb HSB4 HCC4 n0 n1 n2 HCN2 hcN2
                                  have e0 : (late != late) = false := by simp
                                  have hcl4 : C.length ≤ 4 := by rw [HCL.out]; exact hm4
                                  rcases HSF.out.lc with ⟨hlc, hpos⟩ | ⟨hlc, hpos⟩
                                  · subst hlc
                                    have q1 : (0 : Int) < (C.length : Int) := by omega
                                    have q1a : decide ((0 : Int) < (C.length : Int)) = true := decide_eq_true q1
                                    go_wp2_with fail
                                    obtain ⟨E, hE1, hE2, hE3⟩ := HSF.out.soon hpos
                                    obtain ⟨cl, hcl⟩ : ∃ cl, C.length = cl + 1 := ⟨C.length - 1, by omega⟩
                                    obtain ⟨adc, hAC, z0, z1⟩ := at_T31 HCC5.out (cl : Int) (by omega) (by omega)
                                    subst hAC
                                    simp only [rd_T31, Int.toNat_natCast] at z0 z1
                                    rw [show C.length - 1 = cl by omega] at hE1
                                    obtain ⟨sc, hsc⟩ : ∃ sc, C.getD cl z31 = sc := ⟨_, rfl⟩
                                    rw [hsc] at z0 z1 hE1
                                    obtain ⟨f0, f1⟩ := sc
                                    have HE1 := Aside0.mk hE1
                                    have HE3 := Aside0.mk hE3
                                    have HE2 := Aside0.mk hE2
                                    have ec : IntKind.i64.wrap ((C.length : Int) - 1) = (cl : Int) := by rw [IntKind.wrap_i64]; omega
                                    have hjz : (cl : Int) < (C.length : Int) := by omega
                                    obtain ⟨AN2, cN2, hcN2, n0, n1, n2, hCN2⟩ := HSB5.out.env.net.out.2
                                    have HCN2 := Aside0.mk hCN2
                                    have hbr : Below z3w.heap.size z3w z3w := Below.refl _ _
                                    clear hsc hcl hCN2 hE1 hE2 hE3
                                    go_upto_region 60 with fail
                                    go_cut [53, 54] from 529 to 567 (fun v53 v54 wx => ∃ (AE : Option Addr) (cE : Nat), v53 = .slice AE E.length cE ∧ v54 = .int .i64 0 ∧ Aside0 (Below z3w.heap.size z3w wx) ∧ Aside0 (Kd.C (Kd.int .i64) wx AE E.length E))
                                    case first =>
                                      as_aux_lemma =>
                                        go_region_held_law (fun w' => w'.cell? ⟨g, 0, none⟩ = some (.int .i8 (x : Int)) ∧ w'.cell? ⟨g, 1, none⟩ = some (.int .i16 t) ∧ w'.cell? ⟨g, 2, none⟩ = some (.slice AN2 ls.length cN2) ∧ w'.cell? (adc.add (cl * 2)) = some (.int .i8 f0) ∧ w'.cell? ⟨(adc.add (cl * 2)).block, (adc.add (cl * 2)).off + 1, none⟩ = some (.int .i16 f1) ∧ Below z3w.heap.size z3w w')
                                          ((refine cells5n n0 n1 n2 z0 z1 ?_; (try go_split_ands); first | exact hB32 | exact hbr.drew | assumption))
                                          (first
                                            | (go_at_call 27; refine (spec_EarliestAt.calls (x : Int) t AN2 cN2 ls f0 f1 E 0 _ (Kd.C_below HCN2.out (by go_split_ands; assumption)) hcN2 HE1.out).mono ?_; rintro e w32 ⟨v32, rfl, hO32, hb32⟩; have hB32 : Below z3w.heap.size z3w w32 := hbr.drew.trans (hb32.mono (Nat.le_refl _)); obtain ⟨AE, cE, rfl⟩ := Kd.R_slice hO32))
                                        go_wp2_with fail
                                        go_meet
                                        exact ⟨AE, cE, rfl, rfl, ⟨hB32⟩, ⟨(Kd.R_reads' hO32).2.2⟩⟩
                                    case rest =>
                                      as_aux_lemma =>
                                        obtain ⟨AE, cE, rfl, rfl, HBE, HCE⟩ := hcut
                                        have HSB6 := Aside0.mk (HSB5.out.below HBE.out)
                                        obtain ⟨AN3, cN3, hcN3, m0, m1, m2, hCN3⟩ := HSB6.out.env.net.out.2
                                        have HBF := Aside0.mk HSB6.out.bel
                                        clear hCN3 m1 m2 HSB5 HBE z0 z1 n0 n1 n2 HCN2 hcN2
                                        have he1 : ((E.length : Int) == (x : Int)) = true := by rw [HE2.out]; simp
                                        obtain ⟨qn, hqn⟩ := Int.eq_ofNat_of_zero_le HSF.out.q0
                                        have hqx : (qn : Int) < (x : Int) := by rw [← hqn]; exact HSF.out.q1
                                        have hqe : (qn : Int) < (E.length : Int) := by rw [HE2.out]; exact hqx
                                        obtain ⟨ade, rfl, hx0⟩ := at_int64 HCE.out qn (by omega)
                                        have hq3 := HE3.out
                                        rw [hqn, Int.toNat_natCast] at hq3
                                        obtain ⟨ev, hev⟩ : ∃ ev, E.getD qn 0 = ev := ⟨_, rfl⟩
                                        rw [hev] at hx0 hq3
                                        subst hqn
                                        have HQ3 := Aside0.mk hq3
                                        clear hq3 hev
                                        cases late with
                                        | false =>
                                          go_wp2
                                          go_ret
                                          exact ⟨rfl, HBF.out⟩
                                        | true =>
                                          by_cases c1 : ev < 0
                                          · have d1 : decide (ev < 0) = true := decide_eq_true c1
                                            go_wp2
                                            go_ret
                                            exact ⟨rfl, HBF.out⟩
                                          · have c2 : a1 + v < ev := by have := HQ3.out rfl; omega
                                            have d1 : decide (ev < 0) = false := decide_eq_false c1
                                            have d2 : decide (a1 + v < ev) = true := decide_eq_true c2
                                            go_wp2
                                            go_ret
                                            exact ⟨rfl, HBF.out⟩
                                  · subst hlc
                                    have q1 : ¬ (0 : Int) < (C.length : Int) := by omega
                                    have q1a : decide ((0 : Int) < (C.length : Int)) = false := decide_eq_false q1
                                    have HBF := Aside0.mk HSB5.out.bel
                                    go_wp2
                                    go_ret
                                    exact ⟨rfl, HBF.out⟩
end Go.Proofs.Yticfecncdpdanaa.Q
