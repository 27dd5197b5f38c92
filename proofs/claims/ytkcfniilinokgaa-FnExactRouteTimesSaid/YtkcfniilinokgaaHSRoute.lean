/- spec's l07Next and RouteTimes. -/
import Derived.Test.YtkcfniilinokgaaRoute
import Derived.Lib.QuietBelow
set_option linter.unusedVariables false
set_option linter.unusedSimpArgs false
namespace Go.Proofs.Ytkcfniilinokgaa.Q
open Go.RowKit Go.Proofs.YtkcfniilinokgaaW.PrintWords Go.Proofs.YtkcfniilinokgaaW.PrintLast Go.Proofs.YtkcfniilinokgaaW.PrintMore
set_option maxHeartbeats 8000000 in
theorem l07Next_at {B : Nat} {s t : Int} {l : List S55} {w : World} (h : NetAt B s t l w) (hok : okNet s t l = true) (hsm : smallL l) (hl20 : l.length ≤ 20) (f g : Int) :
    Calls Try.prog 20 #[.pointer (some ⟨B, 0, none⟩), .int .i64 f, .int .i64 g] w fun e w' => e = .returned (.tuple #[.int .i64 (nextR l f g).1, .int .i64 (nextR l f g).2.1, .bool (nextR l f g).2.2]) ∧ Below w.heap.size w w' := by
  obtain ⟨_, hl⟩ := okNet_iff.1 hok
  have HN := Aside0.mk h
  have HL := Aside0.mk hl
  have HS := Aside0.mk hsm
  clear h hok hl hsm
  go_enter Try.func20, Try.ntmps20
  go_wp2
  go_loopg [9, 10, 11, 12] l.length (fun gg v9 v10 v11 v12 wr => ∃ (k : Nat) (le mo : Int) (fd : Bool), k ≤ l.length ∧ l.length - k ≤ gg ∧ v12 = .int .i64 k ∧ v9 = .int .i64 le ∧ v10 = .int .i64 mo ∧ v11 = .bool fd ∧ Aside0 (nextR (l.take k) f g = (le, mo, fd)) ∧ Aside0 (Below w.heap.size w wr))
  case atStart => exact ⟨0, 0, 0, false, Nat.zero_le _, by omega, rfl, rfl, rfl, rfl, ⟨rfl⟩, ⟨Below.refl _ _⟩⟩
  case round =>
    obtain ⟨k, le, mo, fd, hk, hg, rfl, rfl, rfl, rfl, HR, BW⟩ := hrel
    obtain ⟨hBr, A, c, hc, d0, d1, d2, hr⟩ := (HN.out.below BW.out).out
    by_cases hlt : k < l.length
    · have hltz : (k : Int) < (l.length : Int) := by omega
      obtain ⟨ad, e, hx0, hx1, hx2, hx3⟩ := at_T55 hr (k : Int) (by omega) hltz
      have hmem : l.getD k z55 ∈ l := by rw [List.getD_eq_getElem?_getD, List.getElem?_eq_getElem hlt]; exact List.getElem_mem hlt
      obtain ⟨a1, a2, a3, a4, a5, a6, a7, a8⟩ := okLane_iff.1 (HL.out _ hmem)
      have hsx := HS.out _ hmem
      have HT := Aside0.mk (next_take f g l k hlt)
      have hsm := next_small f g HS.out (l.take k) (fun x hx => List.mem_of_mem_take hx)
      rw [HR.out] at hsm HT
      simp only at hsm
      obtain ⟨m1, m2, m3, m4⟩ := hsm
      simp only [rd_T55, Int.toNat_natCast] at hx0 hx1 hx2 hx3
      subst e
      generalize l.getD k z55 = y at hx0 hx1 hx2 hx3 a1 a2 a3 a4 a5 a6 a7 a8 hsx HT
      clear hmem HR
      obtain ⟨p, q, m, n⟩ := y
      simp only at a1 a2 a3 a4 a5 a6 a7 a8 hx0 hx1 hx2 hx3 hsx
      obtain ⟨s1, s2, s3, s4⟩ := hsx
      have ep : IntKind.i64.wrap p = p := by rw [i64_w]; unfold wrap64; omega
      have eq : IntKind.i64.wrap q = q := by rw [i64_w]; unfold wrap64; omega
      have em : IntKind.i64.wrap m = m := by rw [i64_w]; unfold wrap64; omega
      have en : IntKind.i64.wrap n = n := by rw [i64_w]; unfold wrap64; omega
      have BW2 : Aside0 (Below w.heap.size w (wr.alloc (.cells #[.int .i8 p, .int .i8 q, .int .i16 m, .int .i16 n] 55))) := ⟨BW.out.alloc BW.out.size _⟩
      by_cases hfg : p = f ∧ q = g
      · obtain ⟨rfl, rfl⟩ := hfg
        by_cases hle : fd = false ∨ m < le
        · have HT2 : Aside0 (nextR (l.take (k + 1)) p q = (m, max mo n, true)) := ⟨by rw [HT.out]; unfold nextS; rw [if_pos ⟨rfl, rfl⟩, if_pos hle]⟩
          clear HT
          cases fd with
          | false =>
            go_wp2_with (go_at_call 28; refine (l00Max_is _ _ _).mono ?_; rintro e w' ⟨rfl, rfl⟩)
            go_roundg (l.length - (k + 1))
            case measure => omega
            case rel => exact ⟨k + 1, m, max mo n, true, by omega, by omega, by go_num, rfl, rfl, rfl, HT2, BW2⟩
          | true =>
            have hle' : m < le := hle.resolve_left (by simp)
            go_wp2_with (go_at_call 28; refine (l00Max_is _ _ _).mono ?_; rintro e w' ⟨rfl, rfl⟩)
            go_roundg (l.length - (k + 1))
            case measure => omega
            case rel => exact ⟨k + 1, m, max mo n, true, by omega, by omega, by go_num, rfl, rfl, rfl, HT2, BW2⟩
        · have HT2 : Aside0 (nextR (l.take (k + 1)) p q = (le, max mo n, true)) := ⟨by rw [HT.out]; unfold nextS; rw [if_pos ⟨rfl, rfl⟩, if_neg hle]⟩
          have hfd : fd = true := by simpa using fun h => hle (Or.inl h)
          have hle' : ¬ m < le := fun h => hle (Or.inr h)
          subst hfd
          clear HT
          go_wp2_with (go_at_call 28; refine (l00Max_is _ _ _).mono ?_; rintro e w' ⟨rfl, rfl⟩)
          go_roundg (l.length - (k + 1))
          case measure => omega
          case rel => exact ⟨k + 1, le, max mo n, true, by omega, by omega, by go_num, rfl, rfl, rfl, HT2, BW2⟩
      · have HT2 : Aside0 (nextR (l.take (k + 1)) f g = (le, mo, fd)) := ⟨by rw [HT.out]; unfold nextS; rw [if_neg hfg]⟩
        clear HT
        by_cases hpf : p = f
        · subst hpf
          have hqg : (q != g) = true := by simp; exact fun h => hfg ⟨rfl, h⟩
          go_wp2
          go_roundg (l.length - (k + 1))
          case measure => omega
          case rel => exact ⟨k + 1, le, mo, fd, by omega, by omega, by go_num, rfl, rfl, rfl, HT2, BW2⟩
        · have hqg : (p != f) = true := by simp [hpf]
          go_wp2
          go_roundg (l.length - (k + 1))
          case measure => omega
          case rel => exact ⟨k + 1, le, mo, fd, by omega, by omega, by go_num, rfl, rfl, rfl, HT2, BW2⟩
    · have hltz : ¬ (k : Int) < (l.length : Int) := by omega
      have HE : Aside0 (nextR l f g = (le, mo, fd)) := ⟨by have := HR.out; rwa [List.take_of_length_le (by omega)] at this⟩
      go_wp2
      go_ret3
      exact ⟨by rw [HE.out]; rfl, BW.out⟩
end Go.Proofs.Ytkcfniilinokgaa.Q
