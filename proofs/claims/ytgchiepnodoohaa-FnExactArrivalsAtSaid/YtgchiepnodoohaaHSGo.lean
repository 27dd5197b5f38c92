/- spec's l07Hour, l07Scan, l07Along, l07Behind, l07Goes. -/
import Derived.Test.YtgchiepnodoohaaHSLanes
import Derived.Test.YtgchiepnodoohaaHCanGo
set_option linter.unusedVariables false
set_option linter.unusedSimpArgs false
namespace Go.Proofs.Ytgchiepnodoohaa.Q
open Go.RowKit Go.Proofs.YtgchiepnodoohaaW.PrintWords Go.Proofs.YtgchiepnodoohaaW.PrintLast Go.Proofs.YtgchiepnodoohaaW.PrintMore
theorem l07Hour_is (n : Int) (w : World) : Calls Try.prog 80 #[.int .i64 n] w fun e w' => e = .returned (.bool (inB n 0 300)) ∧ w = w' := by
  go_enter Try.func80, Try.ntmps80
  go_wp2_with fail
  refine (l00In_is _ _ _ _ rfl _).mono ?_
  rintro e w' ⟨rfl, rfl⟩
  go_wp2
  go_ret
  exact ⟨rfl, rfl⟩
/-- Whether there can be such a scan. -/
def scanIn (s : Int) (x : S47) : Bool := inB x.f0 0 (s - 1) && inB x.f1 0 300
theorem l07Scan_at {B : Nat} {s t : Int} {l : List S82} {w : World} (h : NetAt B s t l w) (hok : okNet s t l = true) (a0 a1 : Int) (ha : okScan ⟨a0, a1⟩ = true) :
    Calls Try.prog 67 #[.pointer (some ⟨B, 0, none⟩), .agg #[.int .i8 a0, .int .i16 a1]] w fun e w' => e = .returned (.bool (scanIn s ⟨a0, a1⟩)) ∧ Below w.heap.size w w' := by
  have HN := Aside0.mk h
  have HO := Aside0.mk hok
  obtain ⟨o1, o2, o3, o4⟩ := okScan_iff.1 ha
  simp only at o1 o2 o3 o4
  clear h hok ha
  go_enter Try.func67, Try.ntmps67
  go_wp2_with fail
  refine (l07Station_at (HN.out.alloc _) HO.out a0).mono ?_
  rintro e w' ⟨rfl, rfl⟩
  cases h1 : inB a0 0 (s - 1) with
  | false =>
    have H1 := Aside0.mk h1
    clear h1
    go_wp2
    go_ret
    exact ⟨by unfold scanIn; rw [H1.out]; rfl, (Below.refl _ _).alloc (Nat.le_refl _) _⟩
  | true =>
    have H1 := Aside0.mk h1
    clear h1
    go_wp2_with fail
    refine (l07Hour_is _ _).mono ?_
    rintro e w' ⟨rfl, rfl⟩
    go_wp2
    go_ret
    exact ⟨by unfold scanIn; rw [H1.out]; rfl, (Below.refl _ _).alloc (Nat.le_refl _) _⟩
/-- What l07Along adds. -/
def Along (t m n : Int) (h off : Nat) (G G' : List Bool) : Prop := ∀ i, G'.getD i false = true ↔ G.getD i false = true ∨ ∃ k, goes t m n h k ∧ i = off + k
set_option maxHeartbeats 4000000 in
set_option maxRecDepth 100000 in
theorem l07Along_is {B : Nat} {s t : Int} {l : List S82} (f m n : Int) (g h gb : Nat) (G : List Bool) (hG : G.length = 2408) (T : TypeId) (w : World) (hn : NetAt B s t l w) (hb : RowAt w gb T G) (hBg : B ≠ gb)
    (hg8 : g < 8) (hh : h < 301) (ht0 : 0 ≤ t) (ht1 : t ≤ 40) (hm0 : 1 ≤ m) (hm1 : m ≤ 40) (hn0 : 0 ≤ n) (hn1 : n ≤ 40) :
    Calls Try.prog 100 #[.pointer (some ⟨B, 0, none⟩), .pointer (some ⟨gb, 0, none⟩), .agg #[.int .i8 f, .int .i8 (g : Int), .int .i16 m, .int .i16 n], .int .i64 (h : Int)] w fun e w' =>
      e = .returned (.tuple #[]) ∧ Below gb w w' ∧ ∃ G' : List Bool, G'.length = 2408 ∧ RowAt w' gb T G' ∧ Along t m n h (g * 301) G G' := by
  have HN := Aside0.mk hn
  have HB := Aside0.mk hb
  clear hn hb
  go_enter Try.func100, Try.ntmps100
  go_wp2
  have hgb := HB.out.lt
  have HB0 := Aside0.mk (HB.out.alloc (.cells #[.int .i8 f, .int .i8 (g : Int), .int .i16 m, .int .i16 n] 82))
  have hB0 : Aside0 (Below gb w (w.alloc (.cells #[.int .i8 f, .int .i8 (g : Int), .int .i16 m, .int .i16 n] 82))) := ⟨(Below.refl _ _).alloc (by omega) _⟩
  have c1 : Aside0 ((w.alloc (.cells #[.int .i8 f, .int .i8 (g : Int), .int .i16 m, .int .i16 n] 82)).cell? ⟨w.heap.size, 1, none⟩ = some (.int .i8 (g : Int))) := ⟨by go_simp⟩
  have c3 : Aside0 ((w.alloc (.cells #[.int .i8 f, .int .i8 (g : Int), .int .i16 m, .int .i16 n] 82)).cell? ⟨w.heap.size, 3, none⟩ = some (.int .i16 n)) := ⟨by go_simp⟩
  obtain ⟨hBw, A', c', hc', q0, q1, q2, hr'⟩ := (HN.out.alloc (.cells #[.int .i8 f, .int .i8 (g : Int), .int .i16 m, .int .i16 n] 82)).out
  have Q1 := Aside0.mk q1
  clear q0 q1 q2 hr' hc'
  have hne : w.heap.size ≠ gb := by omega
  generalize w.alloc (.cells #[.int .i8 f, .int .i8 (g : Int), .int .i16 m, .int .i16 n] 82) = W at *
  have hgz : (g : Int) < 8 := by omega
  go_loopg [8] 81 (fun gg v8 wr => ∃ (x : Nat) (G2 : List Bool), m ≤ x ∧ x ≤ 81 ∧ 81 - x ≤ gg ∧ v8 = .int .i64 x ∧ G2.length = 2408 ∧ Aside0 (RowAt wr gb T G2) ∧ Aside0 (Only gb W wr) ∧ Aside0 (∀ i, G2.getD i false = true ↔ G.getD i false = true ∨ ∃ k, k < h + x ∧ goes t m n h k ∧ i = g * 301 + k))
  case atStart =>
    refine ⟨m.toNat, G, by omega, by omega, by omega, ?_, hG, HB0, ⟨Only.refl _ _⟩, ⟨fun i => ⟨Or.inl, fun h => h.elim id (fun ⟨k, h1, h2, _⟩ => ?_)⟩⟩⟩
    · congr 1
      omega
    · unfold goes at h2
      omega
  case round =>
    obtain ⟨x, G2, hx0, hx1, hg2, rfl, hG2, HR2, HO2, HI2⟩ := hrel
    have e1 := (HO2.out.cell w.heap.size 1 hne).trans c1.out
    have e3 := (HO2.out.cell w.heap.size 3 hne).trans c3.out
    have e4 := (HO2.out.cell B 1 hBg).trans Q1.out
    by_cases hin : (x : Int) ≤ n + t
    · by_cases hin2 : (h : Int) + x ≤ 300
      · have hc := HR2.out.cell (g * 301 + (h + x)) (by omega)
        have hfz := HR2.out.frozen (g * 301 + (h + x))
        have HI3 : Aside0 (∀ i, (G2.set (g * 301 + (h + x)) true).getD i false = true ↔ G.getD i false = true ∨ ∃ k, k < h + (x + 1) ∧ goes t m n h k ∧ i = g * 301 + k) := ⟨fun i => by
          rw [set_true G2 (g * 301 + (h + x)) i (by omega), HI2.out i]
          constructor
          · rintro (h1 | h1 | ⟨k, h1, h2, h3⟩)
            · exact .inr ⟨h + x, by omega, ⟨by omega, by omega, by omega⟩, h1⟩
            · exact .inl h1
            · exact .inr ⟨k, by omega, h2, h3⟩
          · rintro (h1 | ⟨k, h1, h2, h3⟩)
            · exact .inr (.inl h1)
            · rcases Nat.lt_succ_iff_lt_or_eq.1 (show k < (h + x) + 1 by omega) with h1 | rfl
              · exact .inr (.inr ⟨k, h1, h2, h3⟩)
              · exact .inl h3⟩
        have hw1 : IntKind.i64.wrap (n + t) = n + t := IntWalk.i64_in _ (by omega)
        have hw2 : IntKind.i64.wrap ((h : Int) + x) = h + x := IntWalk.i64_in _ (by omega)
        go_wp2
        go_quiet (fail)
        go_wp2
        go_region
        have n1 := Aside0.mk ((HR2.out.drewN (nq + 1)).set (g * 301 + (h + x)) true)
        have n2 := Aside0.mk ((HO2.out.drewN (nq + 1)).setCell (g * 301 + (h + x)) (.bool true))
        clear hw1 hw2 hc hfz
        go_wp2
        go_roundg (81 - (x + 1))
        case measure => omega
        case rel => exact ⟨x + 1, G2.set (g * 301 + (h + x)) true, by omega, by omega, by omega, by go_num, by rw [List.length_set]; exact hG2, n1, n2, HI3⟩
      · have hin3 : (300 : Int) < h + x := by omega
        have HI3 : Aside0 (Along t m n h (g * 301) G G2) := ⟨fun i => by
          rw [HI2.out i]
          constructor
          · rintro (h1 | ⟨k, h1, h2, h3⟩)
            · exact .inl h1
            · exact .inr ⟨k, h2, h3⟩
          · rintro (h1 | ⟨k, h2, h3⟩)
            · exact .inl h1
            · refine .inr ⟨k, ?_, h2, h3⟩
              unfold goes at h2
              omega⟩
        have hw1 : IntKind.i64.wrap (n + t) = n + t := IntWalk.i64_in _ (by omega)
        have hw2 : IntKind.i64.wrap ((h : Int) + x) = h + x := IntWalk.i64_in _ (by omega)
        go_wp2
        go_quiet (fail)
        go_wp2
        go_end0
        exact ⟨rfl, hB0.out.trans ((HO2.out.drewN _).below (Nat.le_refl gb)), G2, hG2, HR2.out.drewN _, HI3.out⟩
    · have hin3 : n + t < (x : Int) := by omega
      have HI3 : Aside0 (Along t m n h (g * 301) G G2) := ⟨fun i => by
        rw [HI2.out i]
        constructor
        · rintro (h1 | ⟨k, h1, h2, h3⟩)
          · exact .inl h1
          · exact .inr ⟨k, h2, h3⟩
        · rintro (h1 | ⟨k, h2, h3⟩)
          · exact .inl h1
          · refine .inr ⟨k, ?_, h2, h3⟩
            unfold goes at h2
            omega⟩
      have hd : decide ((x : Int) ≤ n + t) = false := decide_eq_false (by omega)
      have hw1 : IntKind.i64.wrap (n + t) = n + t := IntWalk.i64_in _ (by omega)
      go_wp2
      go_quiet (fail)
      go_wp2
      go_end0
      exact ⟨rfl, hB0.out.trans ((HO2.out.drewN _).below (Nat.le_refl gb)), G2, hG2, HR2.out.drewN _, HI3.out⟩
end Go.Proofs.Ytgchiepnodoohaa.Q
