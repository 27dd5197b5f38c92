/- The law's markInt64SS: the numbers from a on, written into a row of rows of the call's own. -/
import Derived.Test.YtpblkgnmddmheaaRings
import Derived.Test.YtpblkgnmddmheaaLoops
import Derived.Test.YtpblkgnmddmheaaQ3
set_option linter.unusedVariables false
set_option linter.unusedSimpArgs false
namespace Go.Proofs.Ytpblkgnmddmheaa.Q
open Go.RowKit Go.Proofs.YtpblkgnmddmheaaW.PrintWords Go.Proofs.YtpblkgnmddmheaaW.PrintLast Go.Proofs.YtpblkgnmddmheaaW.PrintMore Go.Proofs.Ytpblkgnmddmheaa.Loops
theorem markInt64S_is (l : List Int) (hl : l.length ≤ 1048576) (k : Nat) (hk : l.length < k) (a : Int) (ha : 0 ≤ a) (hb : a ≤ 1048576 * 1048576) : laws_markInt64S.f k l a = some (a + l.length, marks a l.length) := by
  unfold laws_markInt64S.f
  exact mark64_all laws_markInt64S.l0 (fun k l a i => by simp only [laws_markInt64S.l0]) l hl k hk a ha hb
def marksLL : Int → List (List Int) → List (List Int)
  | _, [] => []
  | a, r :: rs => marks a r.length :: marksLL (a + (r.length : Int)) rs
def totL : List (List Int) → Int
  | [] => 0
  | r :: rs => (r.length : Int) + totL rs
set_option maxRecDepth 100000 in
set_option maxHeartbeats 4000000 in
theorem markSS_is (P : Nat → Prop) (v : Value) (ls : List (List Int)) (hn : ls.length ≤ 1000) (hr : ∀ r ∈ ls, r.length ≤ 1000) (a : Int) (ha : 0 ≤ a) (hb : a ≤ 1000) (w0 w : World) (hB : Below w0.heap.size w0 w) (hS : Kd.S (Kd.slice 2 (Kd.int .i64)) 22 w w0.heap.size P v ls) :
    Calls Try.prog 11 #[v, .int .i64 a] w fun e w' => e = .returned (.int .i64 (a + totL ls)) ∧ Kd.S (Kd.slice 2 (Kd.int .i64)) 22 w' w0.heap.size P v (marksLL a ls) ∧ Below w0.heap.size w0 w' ∧ Kept w w' P := by
  obtain ⟨A, c, rfl, hc, _⟩ := Kd.S_reads hS
  have HS := Aside0.mk hS
  have HB := Aside0.mk hB
  have HRs := Aside0.mk hr
  have HK : Aside0 (Kept w w P) := ⟨Kept.refl w P⟩
  obtain ⟨R, hR⟩ : ∃ R, marksLL a ls = R := ⟨_, rfl⟩
  obtain ⟨T, hT⟩ : ∃ T, a + totL ls = T := ⟨_, rfl⟩
  rw [hR, hT]
  have HR0 : Aside0 (([] : List (List Int)) ++ marksLL a (ls.drop 0) = R) := ⟨by simpa using hR⟩
  have HT0 : Aside0 (a + totL (ls.drop 0) = T) := ⟨by simpa using hT⟩
  clear hS hB hR hT hr
  have hb0 : a ≤ 1000 + 1000 * 0 := by omega
  go_enter Try.func11, Try.ntmps11
  go_wp2_with fail
  go_loopg [1, 5] ls.length (fun gg v1 v5 wr => ∃ (i : Nat) (a' : Int) (pre : List (List Int)), i ≤ ls.length ∧ ls.length - i ≤ gg ∧ pre.length = i ∧ v5 = .int .i64 i ∧ v1 = .int .i64 a' ∧ 0 ≤ a' ∧ a' ≤ 1000 + 1000 * (i : Int) ∧ Aside0 (Kd.S (Kd.slice 2 (Kd.int .i64)) 22 wr w0.heap.size P (.slice A ls.length c) (pre ++ ls.drop i)) ∧ Aside0 (Below w0.heap.size w0 wr) ∧ Aside0 (Kept w wr P) ∧ Aside0 (pre ++ marksLL a' (ls.drop i) = R) ∧ Aside0 (a' + totL (ls.drop i) = T))
  case atStart => exact ⟨0, a, [], Nat.zero_le _, by omega, rfl, rfl, rfl, ha, by omega, by simpa using HS, HB, HK, HR0, HT0⟩
  case round =>
    obtain ⟨i, a', pre, hi, hg, hp, rfl, rfl, a0, a1, HS, HB, HK, HR, HT⟩ := hrel
    by_cases hlt : i < ls.length
    · have hltz : (i : Int) < (ls.length : Int) := by omega
      have hxl : (pre ++ ls.drop i).length = ls.length := by rw [List.length_append, List.length_drop]; omega
      obtain ⟨g, co, eo, gb, gl, cl, HG⟩ := Kd.S_form HS.out (by omega)
      injection eo with ea en ec
      subst ea
      subst ec
      have hdr : ls.drop i = ls.getD i [] :: ls.drop (i + 1) := drop_cons_of ls [] i hlt
      have hxi : (pre ++ ls.drop i).getD i [] = ls.getD i [] := by
        rw [hdr, List.getD_eq_getElem?_getD, List.getElem?_append_right (by omega), hp, Nat.sub_self]; rfl
      obtain ⟨oki, cc, hcl, hM, hcc, hoki, hH⟩ := Kd.S_lend HS.out [] (i : Int) (by omega) (by omega)
      rw [Int.toNat_natCast, hxi] at hM
      obtain ⟨sv, rfl, hRi⟩ := hM
      have hx0 : wr.cell? ⟨g, i, none⟩ = some sv := by have := hcc 0 sv rfl; rwa [show (Kd.slice 2 (Kd.int .i64)).sz = 1 from rfl, Int.toNat_natCast, Nat.mul_one, Nat.add_zero] at this
      have hrl : (ls.getD i []).length ≤ 1000 := HRs.out _ (by rw [List.getD_eq_getElem?_getD, List.getElem?_eq_getElem hlt]; exact List.getElem_mem hlt)
      have hR2 := HR.out
      have hT2 := HT.out
      rw [hdr] at hR2 hT2
      rw [marksLL] at hR2
      rw [totL] at hT2
      obtain ⟨r, hr⟩ : ∃ r, ls.getD i [] = r := ⟨_, rfl⟩
      rw [hr] at hRi hrl hR2 hT2
      have HC := Aside0.mk (laws_markInt64S.calls 1048577 oki sv r a' _ _ w0 wr HB.out hRi (markInt64S_is r (by omega) 1048577 (by omega) a' a0 (by omega)))
      have HH := Aside0.mk hH
      have HOK := Aside0.mk hoki
      have HRI := Aside0.mk hRi.1
      have HR3 : Aside0 (pre ++ [marks a' r.length] ++ marksLL (a' + (r.length : Int)) (ls.drop (i + 1)) = R) := ⟨by simpa using hR2⟩
      have HT3 : Aside0 (a' + (r.length : Int) + totL (ls.drop (i + 1)) = T) := ⟨by rw [← hT2]; omega⟩
      have HSET : Aside0 ((pre ++ ls.drop i).set i (marks a' r.length) = pre ++ [marks a' r.length] ++ ls.drop (i + 1)) := ⟨by
        rw [hdr, List.set_append, if_neg (by omega), hp, Nat.sub_self, List.set_cons_zero, List.append_assoc]; rfl⟩
      clear en hxl hR2 hT2 hcc hcl hoki hH hRi HR HT hxi hdr hr
      go_wp2_with fail
      refine HC.out.mono ?_
      rintro e w1 ⟨rfl, hR1, hB1, hK1⟩
      have hR1' := Kd.R_reok rfl hR1 (ok := oki) HRI.out
      have hH1 := Kd.H_step HH.out (fun k hk hnk hlt => hK1.2 k hlt hnk)
      have hS1 := Kd.H_back hH1 (Kd.M_row hR1') (fun _ hk => hk)
      rw [Int.toNat_natCast, HSET.out] at hS1
      have HS1 := Aside0.mk hS1
      have HB1 := Aside0.mk hB1
      have HK2 := Aside0.mk (HK.out.then_ hK1 (fun k hk => .inl (HOK.out k hk).1))
      clear hR1 hR1' hH1 hS1 hB1 hK1
      go_wp2
      go_roundg (ls.length - (i + 1))
      case measure => omega
      case rel => exact ⟨i + 1, _, pre ++ [marks a' r.length], by omega, by omega, by simp [hp], by go_num, rfl, by omega, by omega, HS1, HB1, HK2, HR3, HT3⟩
    · have hltz : ¬ (i : Int) < (ls.length : Int) := by omega
      have e0 : ls.drop i = [] := List.drop_of_length_le (by omega)
      have hS2 := HS.out
      have hR2 := HR.out
      have hT2 := HT.out
      rw [e0, marksLL, List.append_nil] at hR2
      rw [e0, totL] at hT2
      rw [e0, List.append_nil] at hS2
      have HS2 := Aside0.mk hS2
      have HR2 := Aside0.mk hR2
      have HT2 : Aside0 (a' = T) := ⟨by omega⟩
      clear hS2 hR2 hT2 e0
      go_wp2
      go_ret
      exact ⟨by rw [HT2.out]; rfl, by rw [← HR2.out]; exact HS2.out, HB.out, HK.out⟩
end Go.Proofs.Ytpblkgnmddmheaa.Q
