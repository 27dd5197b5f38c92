/- spec's l07Behind, l07Goes. -/
import Derived.Test.YtgchiepnodoohaaBeh
set_option linter.unusedVariables false
set_option linter.unusedSimpArgs false
namespace Go.Proofs.Ytgchiepnodoohaa.Q
open Go.RowKit Go.Proofs.YtgchiepnodoohaaW.PrintWords Go.Proofs.YtgchiepnodoohaaW.PrintLast Go.Proofs.YtgchiepnodoohaaW.PrintMore
theorem zcS : Try.zeroCells127 = bcells noTimes := by unfold noTimes; rw [bcells_def]; kernel_rfl
theorem below_drewN {b : Nat} {w w1 : World} (h : Below b w w1) (n : Nat) : Below b w (w1.drewN n) := ⟨h.os, h.tape, h.output, h.size, h.block⟩
theorem sent_no {t : Int} {L p : List S82} {a0 h0 H : Nat} {wo : Int} {G : List Bool} (h : Sent t L a0 h0 H (but wo p) G) (x : S82) (hx : ¬ Src t L a0 h0 x.f0.toNat H) : Sent t L a0 h0 H (but wo (p ++ [x])) G := by
  rw [but_snoc]
  split
  · exact h.skip x hx
  · exact h
theorem sent_out {t : Int} {L p : List S82} {a0 h0 H : Nat} {wo : Int} {G : List Bool} (h : Sent t L a0 h0 H (but wo p) G) (x : S82) (hx : x.f0 = wo ∨ x.f1 = wo) : Sent t L a0 h0 H (but wo (p ++ [x])) G := by
  rw [but_snoc, if_neg]
  · exact h
  · rcases hx with hx | hx <;> simp [hx]
theorem sent_go {t : Int} {L p : List S82} {a0 h0 H : Nat} {wo : Int} {G G' : List Bool} (h : Sent t L a0 h0 H (but wo p) G) (x : S82) (g : Nat) (hg : x.f1 = (g : Int)) (h0' : x.f0 ≠ wo) (h1' : x.f1 ≠ wo) (hx : Src t L a0 h0 x.f0.toNat H) (ha : Along t x.f2 x.f3 H (g * 301) G G') : Sent t L a0 h0 H (but wo (p ++ [x])) G' := by
  rw [but_snoc, if_pos (by simp [h0', h1'])]
  exact h.add x g hg hx ha
attribute [local go_sem] zcS
set_option maxHeartbeats 8000000 in
set_option maxRecDepth 100000 in
theorem l07Behind_is {B : Nat} {s t : Int} {l : List S82} (a0 h0 : Nat) (wo : Int) (w : World) (hn : NetAt B s t l w) (hl : ∀ x ∈ l, laneV x) (hlen : l.length ≤ 20) (ht0 : 0 ≤ t) (ht1 : t ≤ 40) (ha : a0 < 8) (hh : h0 < 301) (hw0 : -1 ≤ wo) (hw1 : wo ≤ 8) :
    Calls Try.prog 71 #[.pointer (some ⟨B, 0, none⟩), .agg #[.int .i8 (a0 : Int), .int .i16 (h0 : Int)], .int .i64 wo] w fun e w' =>
      ∃ (gb : Nat), w.heap.size ≤ gb ∧ ∃ (G : List Bool), G.length = 2408 ∧ RowAt w' gb 127 G ∧ ArrT t (but wo l) a0 h0 G ∧ e = .returned (.pointer (some ⟨gb, 0, none⟩)) ∧ Below w.heap.size w w' := by
  have HN := Aside0.mk hn
  have HL := Aside0.mk hl
  have HLB : Aside0 (∀ x ∈ but wo l, laneV x) := ⟨fun x hx => hl x (but_mem hx)⟩
  have hBw := hn.out.1
  clear hn hl
  go_enter Try.func71, Try.ntmps71
  go_wp2
  have R0 : Aside0 (RowAt ((w.alloc (.cells #[.int .i8 (a0 : Int), .int .i16 (h0 : Int)] 47)).alloc (.cells (bcells noTimes) 127)) (w.heap.size + 1) 127 noTimes) := ⟨RowAt.new _ _ (by simp) _ _⟩
  have hB0 : Aside0 (Below w.heap.size w ((w.alloc (.cells #[.int .i8 (a0 : Int), .int .i16 (h0 : Int)] 47)).alloc (.cells (bcells noTimes) 127))) := ⟨((Below.refl _ _).alloc (Nat.le_refl _) _).alloc (by simp) _⟩
  have c0 : Aside0 (((w.alloc (.cells #[.int .i8 (a0 : Int), .int .i16 (h0 : Int)] 47)).alloc (.cells (bcells noTimes) 127)).cell? ⟨w.heap.size, 0, none⟩ = some (.int .i8 (a0 : Int))) := ⟨by go_simp⟩
  have c1 : Aside0 (((w.alloc (.cells #[.int .i8 (a0 : Int), .int .i16 (h0 : Int)] 47)).alloc (.cells (bcells noTimes) 127)).cell? ⟨w.heap.size, 1, none⟩ = some (.int .i16 (h0 : Int))) := ⟨by go_simp⟩
  have hWz : w.heap.size + 1 + 1 ≤ ((w.alloc (.cells #[.int .i8 (a0 : Int), .int .i16 (h0 : Int)] 47)).alloc (.cells (bcells noTimes) 127)).heap.size := by simp
  generalize ((w.alloc (.cells #[.int .i8 (a0 : Int), .int .i16 (h0 : Int)] 47)).alloc (.cells (bcells noTimes) 127)) = W at *
  go_loopg [8] 301 (fun gg v8 wr => ∃ (HH : Nat) (G : List Bool), h0 ≤ HH ∧ HH ≤ 301 ∧ 301 - HH ≤ gg ∧ v8 = .int .i64 HH ∧ G.length = 2408 ∧ Aside0 (RowAt wr (w.heap.size + 1) 127 G) ∧ Aside0 (Below (w.heap.size + 1) W wr) ∧ Aside0 (Sent t (but wo l) a0 h0 HH [] G))
  case atStart => exact ⟨h0, noTimes, by omega, by omega, by omega, rfl, noTimes_length, R0, ⟨Below.refl _ _⟩, ⟨Sent.start HLB.out⟩⟩
  case round =>
    obtain ⟨HH, G, hh0, hh1, hg, rfl, hG, HR, BW, HS⟩ := hrel
    by_cases hlt : (HH : Int) ≤ 300
    · go_wp2
      obtain ⟨wo1, hwo1⟩ : ∃ wo1 : World, wo1 = wr := ⟨_, rfl⟩
      subst hwo1
      go_loopg [9] l.length (fun gg v9 wq => ∃ (kk : Nat) (G2 : List Bool), kk ≤ l.length ∧ l.length - kk ≤ gg ∧ v9 = .int .i64 kk ∧ G2.length = 2408 ∧ Aside0 (RowAt wq (w.heap.size + 1) 127 G2) ∧ Aside0 (Below (w.heap.size + 1) W wq) ∧ Aside0 (Sent t (but wo l) a0 h0 HH (but wo (l.take kk)) G2))
      case atStart => exact ⟨0, G, by omega, by omega, rfl, hG, HR, BW, ⟨HS.out⟩⟩
      case round =>
        obtain ⟨kk, G2, hkk, hg2, rfl, hG2, HR2, BW2, HS2⟩ := hrel
        have BW0 : Aside0 (Below w.heap.size w wr) := ⟨hB0.out.trans (BW2.out.mono (by omega))⟩
        have HN2 := Aside0.mk (HN.out.below BW0.out)
        have hwr := BW2.out.size
        have hltw : w.heap.size < wr.heap.size := by omega
        have hltw1 : w.heap.size + 1 < wr.heap.size := by omega
        obtain ⟨hBr, A', c', hc', q0, q1, q2, hr'⟩ := HN2.out.out
        have HRr := Aside0.mk hr'
        have d0 := (BW2.out.cell (p := ⟨w.heap.size, 0, none⟩) (by simp)).trans c0.out
        have d1 := (BW2.out.cell (p := ⟨w.heap.size, 1, none⟩) (by simp)).trans c1.out
        clear hr'
        have hsub : ∀ x ∈ but wo (l.take kk), x ∈ but wo l := fun x hx => by
          unfold but at hx ⊢
          rw [List.mem_filter] at hx ⊢
          exact ⟨List.mem_of_mem_take hx.1, hx.2⟩
        by_cases hlt2 : kk < l.length
        · have hltz : (kk : Int) < (l.length : Int) := by omega
          obtain ⟨ad, e, hx0, hx1, hx2, hx3⟩ := at_T82 HRr.out (kk : Int) (by omega) hltz
          have hy := HL.out (l.getD kk z82) (by rw [List.getD_eq_getElem?_getD, List.getElem?_eq_getElem hlt2]; exact List.getElem_mem hlt2)
          have htk := take_snoc' l z82 kk hlt2
          simp only [rd_T82, Int.toNat_natCast] at hx0 hx1 hx2 hx3
          subst e
          generalize l.getD kk z82 = y at hx0 hx1 hx2 hx3 hy htk
          have HTK := Aside0.mk htk
          obtain ⟨f, g, m, n⟩ := y
          obtain ⟨f1, f2, g1, g2, m1, m2, n1, n2⟩ := hy
          simp only at f1 f2 g1 g2 m1 m2 n1 n2 hx0 hx1 hx2 hx3
          obtain ⟨f, rfl⟩ := Int.eq_ofNat_of_zero_le f1
          obtain ⟨g, rfl⟩ := Int.eq_ofNat_of_zero_le g1
          have hHz : (HH : Int) < 301 := by omega
          clear htk
          by_cases hb1 : HH = h0
          · by_cases hb2 : f = a0
            · have hsrc : Src t (but wo l) a0 h0 f HH := .inl ⟨hb2, hb1⟩
              subst hb1 hb2
              by_cases hf1 : (f : Int) = wo
              · have hd1 : ((f : Int) != wo) = false := by simp [hf1]
                have hs3 := sent_out HS2.out ⟨(f : Int), (g : Int), m, n⟩ (.inl hf1)
                clear hf1
                have HS3 : Aside0 (Sent t (but wo l) f HH HH (but wo (l.take (kk + 1))) G2) := ⟨by rw [HTK.out]; exact hs3⟩
                clear hs3 hsub
                go_wp2
                go_big_quiet (fail)
                go_wp2
                go_roundg (l.length - (kk + 1))
                case measure => omega
                case rel => exact ⟨kk + 1, G2, by omega, by omega, by go_num, hG2, ⟨(HR2.out.alloc _).drewN _⟩, ⟨below_drewN (BW2.out.alloc (by omega) _) _⟩, HS3⟩
              · have hd1 : ((f : Int) != wo) = true := by simp [hf1]
                by_cases hf2 : (g : Int) = wo
                · have hd2 : ((g : Int) != wo) = false := by simp [hf2]
                  have hs3 := sent_out HS2.out ⟨(f : Int), (g : Int), m, n⟩ (.inr hf2)
                  clear hf2
                  have HS3 : Aside0 (Sent t (but wo l) f HH HH (but wo (l.take (kk + 1))) G2) := ⟨by rw [HTK.out]; exact hs3⟩
                  clear hs3 hsub
                  go_wp2
                  go_big_quiet (fail)
                  go_wp2
                  go_roundg (l.length - (kk + 1))
                  case measure => omega
                  case rel => exact ⟨kk + 1, G2, by omega, by omega, by go_num, hG2, ⟨(HR2.out.alloc _).drewN _⟩, ⟨below_drewN (BW2.out.alloc (by omega) _) _⟩, HS3⟩
                · have hd2 : ((g : Int) != wo) = true := by simp [hf2]
                  have HSRC := Aside0.mk hsrc
                  have HF1 := Aside0.mk hf1
                  have HF2 := Aside0.mk hf2
                  clear hf1 hf2
                  clear hsrc hsub
                  go_wp2
                  go_big_quiet (fail)
                  go_wp2_with fail
                  have HN3 := Aside0.mk (HN2.out.alloc (.cells #[.int .i8 (f : Int), .int .i8 (g : Int), .int .i16 m, .int .i16 n] 82))
                  refine (l07Along_is (B := B) (s := s) (t := t) (l := l) f m n g HH (w.heap.size + 1) G2 hG2 _ _ (HN3.out.below (below_drewN (Below.refl _ _) _)) ((HR2.out.alloc _).drewN _) (by omega) (by omega) (by omega) ht0 ht1 m1 m2 n1 n2).mono ?_
                  rintro e w3 ⟨rfl, hb3, G3, hG3, hR3, hal⟩
                  have HR3 := Aside0.mk hR3
                  have BW3 : Aside0 (Below (w.heap.size + 1) W w3) := ⟨(below_drewN (BW2.out.alloc (by omega) _) _).trans hb3⟩
                  have HS3 : Aside0 (Sent t (but wo l) f HH HH (but wo (l.take (kk + 1))) G3) := ⟨by rw [HTK.out]; exact sent_go HS2.out ⟨(f : Int), (g : Int), m, n⟩ g rfl HF1.out HF2.out HSRC.out hal⟩
                  clear hb3 hR3 hal
                  go_wp2
                  go_roundg (l.length - (kk + 1))
                  case measure => omega
                  case rel => exact ⟨kk + 1, G3, by omega, by omega, by go_num, hG3, HR3, BW3, HS3⟩
            · have hb2z : ((f : Int) == (a0 : Int)) = false := beq_false_of_ne (by omega)
              subst hb1
              have hc := HR2.out.cell (f * 301 + HH) (by omega)
              cases hq : G2.getD (f * 301 + HH) false with
              | false =>
                rw [hq] at hc
                have hs3 := sent_no HS2.out ⟨(f : Int), (g : Int), m, n⟩ (fun h => h.elim (fun h => hb2 h.1) (fun (h : Arr t (but wo l) a0 HH f HH) => by have := (HS2.out.arr HLB.out (fun x hx => hsub x hx) (by omega) (by omega) (Nat.le_refl _)).2 h; unfold gat at this; rw [hq] at this; cases this))
                clear hq
                have HS3 : Aside0 (Sent t (but wo l) a0 HH HH (but wo (l.take (kk + 1))) G2) := ⟨by rw [HTK.out]; exact hs3⟩
                clear hs3 hsub
                go_wp2
                go_big_quiet (fail)
                go_wp2
                go_roundg (l.length - (kk + 1))
                case measure => omega
                case rel => exact ⟨kk + 1, G2, by omega, by omega, by go_num, hG2, ⟨(HR2.out.alloc _).drewN _⟩, ⟨below_drewN (BW2.out.alloc (by omega) _) _⟩, HS3⟩
              | true =>
                rw [hq] at hc
                have hsrc : Src t (but wo l) a0 HH f HH := .inr ((HS2.out.arr HLB.out (fun x hx => hsub x hx) (by omega) (by omega) (Nat.le_refl _)).1 hq)
                clear hq
                by_cases hf1 : (f : Int) = wo
                · have hd1 : ((f : Int) != wo) = false := by simp [hf1]
                  have hs3 := sent_out HS2.out ⟨(f : Int), (g : Int), m, n⟩ (.inl hf1)
                  clear hf1
                  have HS3 : Aside0 (Sent t (but wo l) a0 HH HH (but wo (l.take (kk + 1))) G2) := ⟨by rw [HTK.out]; exact hs3⟩
                  clear hs3 hsub
                  go_wp2
                  go_big_quiet (fail)
                  go_wp2
                  go_roundg (l.length - (kk + 1))
                  case measure => omega
                  case rel => exact ⟨kk + 1, G2, by omega, by omega, by go_num, hG2, ⟨(HR2.out.alloc _).drewN _⟩, ⟨below_drewN (BW2.out.alloc (by omega) _) _⟩, HS3⟩
                · have hd1 : ((f : Int) != wo) = true := by simp [hf1]
                  by_cases hf2 : (g : Int) = wo
                  · have hd2 : ((g : Int) != wo) = false := by simp [hf2]
                    have hs3 := sent_out HS2.out ⟨(f : Int), (g : Int), m, n⟩ (.inr hf2)
                    clear hf2
                    have HS3 : Aside0 (Sent t (but wo l) a0 HH HH (but wo (l.take (kk + 1))) G2) := ⟨by rw [HTK.out]; exact hs3⟩
                    clear hs3 hsub
                    go_wp2
                    go_big_quiet (fail)
                    go_wp2
                    go_roundg (l.length - (kk + 1))
                    case measure => omega
                    case rel => exact ⟨kk + 1, G2, by omega, by omega, by go_num, hG2, ⟨(HR2.out.alloc _).drewN _⟩, ⟨below_drewN (BW2.out.alloc (by omega) _) _⟩, HS3⟩
                  · have hd2 : ((g : Int) != wo) = true := by simp [hf2]
                    have HSRC := Aside0.mk hsrc
                    have HF1 := Aside0.mk hf1
                    have HF2 := Aside0.mk hf2
                    clear hf1 hf2
                    clear hsrc hsub
                    go_wp2
                    go_big_quiet (fail)
                    go_wp2_with fail
                    have HN3 := Aside0.mk (HN2.out.alloc (.cells #[.int .i8 (f : Int), .int .i8 (g : Int), .int .i16 m, .int .i16 n] 82))
                    refine (l07Along_is (B := B) (s := s) (t := t) (l := l) f m n g HH (w.heap.size + 1) G2 hG2 _ _ (HN3.out.below (below_drewN (Below.refl _ _) _)) ((HR2.out.alloc _).drewN _) (by omega) (by omega) (by omega) ht0 ht1 m1 m2 n1 n2).mono ?_
                    rintro e w3 ⟨rfl, hb3, G3, hG3, hR3, hal⟩
                    have HR3 := Aside0.mk hR3
                    have BW3 : Aside0 (Below (w.heap.size + 1) W w3) := ⟨(below_drewN (BW2.out.alloc (by omega) _) _).trans hb3⟩
                    have HS3 : Aside0 (Sent t (but wo l) a0 HH HH (but wo (l.take (kk + 1))) G3) := ⟨by rw [HTK.out]; exact sent_go HS2.out ⟨(f : Int), (g : Int), m, n⟩ g rfl HF1.out HF2.out HSRC.out hal⟩
                    clear hb3 hR3 hal
                    go_wp2
                    go_roundg (l.length - (kk + 1))
                    case measure => omega
                    case rel => exact ⟨kk + 1, G3, by omega, by omega, by go_num, hG3, HR3, BW3, HS3⟩
          · have hb1z : ((HH : Int) == (h0 : Int)) = false := beq_false_of_ne (by omega)
            have hc := HR2.out.cell (f * 301 + HH) (by omega)
            cases hq : G2.getD (f * 301 + HH) false with
            | false =>
              rw [hq] at hc
              have hs3 := sent_no HS2.out ⟨(f : Int), (g : Int), m, n⟩ (fun h => h.elim (fun h => hb1 h.2) (fun (h : Arr t (but wo l) a0 h0 f HH) => by have := (HS2.out.arr HLB.out (fun x hx => hsub x hx) (by omega) (by omega) (Nat.le_refl _)).2 h; unfold gat at this; rw [hq] at this; cases this))
              clear hq
              have HS3 : Aside0 (Sent t (but wo l) a0 h0 HH (but wo (l.take (kk + 1))) G2) := ⟨by rw [HTK.out]; exact hs3⟩
              clear hs3 hsub
              go_wp2
              go_big_quiet (fail)
              go_wp2
              go_roundg (l.length - (kk + 1))
              case measure => omega
              case rel => exact ⟨kk + 1, G2, by omega, by omega, by go_num, hG2, ⟨(HR2.out.alloc _).drewN _⟩, ⟨below_drewN (BW2.out.alloc (by omega) _) _⟩, HS3⟩
            | true =>
              rw [hq] at hc
              have hsrc : Src t (but wo l) a0 h0 f HH := .inr ((HS2.out.arr HLB.out (fun x hx => hsub x hx) (by omega) (by omega) (Nat.le_refl _)).1 hq)
              clear hq
              by_cases hf1 : (f : Int) = wo
              · have hd1 : ((f : Int) != wo) = false := by simp [hf1]
                have hs3 := sent_out HS2.out ⟨(f : Int), (g : Int), m, n⟩ (.inl hf1)
                clear hf1
                have HS3 : Aside0 (Sent t (but wo l) a0 h0 HH (but wo (l.take (kk + 1))) G2) := ⟨by rw [HTK.out]; exact hs3⟩
                clear hs3 hsub
                go_wp2
                go_big_quiet (fail)
                go_wp2
                go_roundg (l.length - (kk + 1))
                case measure => omega
                case rel => exact ⟨kk + 1, G2, by omega, by omega, by go_num, hG2, ⟨(HR2.out.alloc _).drewN _⟩, ⟨below_drewN (BW2.out.alloc (by omega) _) _⟩, HS3⟩
              · have hd1 : ((f : Int) != wo) = true := by simp [hf1]
                by_cases hf2 : (g : Int) = wo
                · have hd2 : ((g : Int) != wo) = false := by simp [hf2]
                  have hs3 := sent_out HS2.out ⟨(f : Int), (g : Int), m, n⟩ (.inr hf2)
                  clear hf2
                  have HS3 : Aside0 (Sent t (but wo l) a0 h0 HH (but wo (l.take (kk + 1))) G2) := ⟨by rw [HTK.out]; exact hs3⟩
                  clear hs3 hsub
                  go_wp2
                  go_big_quiet (fail)
                  go_wp2
                  go_roundg (l.length - (kk + 1))
                  case measure => omega
                  case rel => exact ⟨kk + 1, G2, by omega, by omega, by go_num, hG2, ⟨(HR2.out.alloc _).drewN _⟩, ⟨below_drewN (BW2.out.alloc (by omega) _) _⟩, HS3⟩
                · have hd2 : ((g : Int) != wo) = true := by simp [hf2]
                  have HSRC := Aside0.mk hsrc
                  have HF1 := Aside0.mk hf1
                  have HF2 := Aside0.mk hf2
                  clear hf1 hf2
                  clear hsrc hsub
                  go_wp2
                  go_big_quiet (fail)
                  go_wp2_with fail
                  have HN3 := Aside0.mk (HN2.out.alloc (.cells #[.int .i8 (f : Int), .int .i8 (g : Int), .int .i16 m, .int .i16 n] 82))
                  refine (l07Along_is (B := B) (s := s) (t := t) (l := l) f m n g HH (w.heap.size + 1) G2 hG2 _ _ (HN3.out.below (below_drewN (Below.refl _ _) _)) ((HR2.out.alloc _).drewN _) (by omega) (by omega) (by omega) ht0 ht1 m1 m2 n1 n2).mono ?_
                  rintro e w3 ⟨rfl, hb3, G3, hG3, hR3, hal⟩
                  have HR3 := Aside0.mk hR3
                  have BW3 : Aside0 (Below (w.heap.size + 1) W w3) := ⟨(below_drewN (BW2.out.alloc (by omega) _) _).trans hb3⟩
                  have HS3 : Aside0 (Sent t (but wo l) a0 h0 HH (but wo (l.take (kk + 1))) G3) := ⟨by rw [HTK.out]; exact sent_go HS2.out ⟨(f : Int), (g : Int), m, n⟩ g rfl HF1.out HF2.out HSRC.out hal⟩
                  clear hb3 hR3 hal
                  go_wp2
                  go_roundg (l.length - (kk + 1))
                  case measure => omega
                  case rel => exact ⟨kk + 1, G3, by omega, by omega, by go_num, hG3, HR3, BW3, HS3⟩
        · have hltz : ¬ (kk : Int) < (l.length : Int) := by omega
          have hk : kk = l.length := by omega
          have HS3 : Aside0 (Sent t (but wo l) a0 h0 (HH + 1) [] G2) := ⟨by have := HS2.out; rw [hk, List.take_length] at this; exact this.next⟩
          clear hk
          go_wp2
          go_roundg (301 - (HH + 1))
          case measure => omega
          case rel => exact ⟨HH + 1, G2, by omega, by omega, by omega, by go_num, hG2, HR2, BW2, HS3⟩
    · have hk : HH = 301 := by omega
      have HS3 : Aside0 (ArrT t (but wo l) a0 h0 G) := ⟨by have := HS.out; rw [hk] at this; exact this.done HLB.out⟩
      clear hk
      go_wp2
      go_ret
      exact ⟨w.heap.size + 1, by omega, G, hG, HR.out, HS3.out, rfl, hB0.out.trans (BW.out.mono (by omega))⟩
end Go.Proofs.Ytgchiepnodoohaa.Q
