/- What marking a list of scans comes to, and finding the marks again, over lists alone. -/
import Derived.Test.YtjcokfdafingeaaFit7
import Derived.Test.YtjcokfdafingeaaGMarks
set_option linter.unusedVariables false
set_option linter.unusedSimpArgs false
namespace Go.Proofs.Ytjcokfdafingeaa.Q
open Go.RowKit Go.Proofs.YtjcokfdafingeaaW.PrintWords Go.Proofs.Ytjcokfdafingeaa.Loops
def mkScan (a : Int) : S47 := ⟨IntKind.i8.wrap a, IntKind.i16.wrap (a + 1)⟩
theorem markScanS_all (l : List S47) (hl : l.length ≤ 1048576) (k : Nat) (hk : l.length < k) (a : Int) (ha : 0 ≤ a) (hb : a ≤ 1048576 * 1048576) : laws_markScanS.f k l a = some (a + 2 * l.length, gmarks mkScan 2 a l.length) := by
  unfold laws_markScanS.f
  have := gmark_loop (fun k l a i => laws_markScanS.l0 k l a i) mkScan 2 (by omega) (fun k l a i h1 h2 h3 h4 => ?_) (fun k l a => ?_) l.length k l a 0 hl (by omega) (by omega) hk ha (by omega)
  · simpa using this
  · simp only [laws_markScanS.l0]
    rw [if_pos (by omega), if_pos (by omega), Option.bind_some, Int.toNat_natCast, wrap_mid (i := (i : Int) + 1) (by omega) (by omega)]
    have e1 : wrap64 (a + 1) = a + 1 := wrap_mid (by omega) (by omega)
    have e2 : wrap64 (a + 1 + 1) = a + ((2 : Nat) : Int) := by rw [wrap_mid (by omega) (by omega)]; omega
    rw [e1, e2, List.set_set]
    have e3 : (rd_T47 (l.set i ⟨IntKind.i8.wrap a, (rd_T47 l (i : Int)).f1⟩) (i : Int)).f0 = IntKind.i8.wrap a := by
      simp only [rd_T47, Int.toNat_natCast, List.getD_eq_getElem?_getD, List.getElem?_set]
      simp [h1]
    rw [e3]
    rfl
  · simp only [laws_markScanS.l0]
    rw [if_neg (by omega)]
theorem markScanS_is (l : List S47) (hl : l.length ≤ 1048576) (k : Nat) (hk : l.length < k) (a : Int) (ha : 0 ≤ a) (hb : a ≤ 1048576 * 1048576) : ∃ l', laws_markScanS.f k l a = some (a + 2 * l.length, l') := ⟨_, markScanS_all l hl k hk a ha hb⟩
theorem heldScanS_is (n : Nat) (hn : n ≤ 1048576) (k : Nat) (hk : n < k) (a : Int) (ha : 0 ≤ a) (hb : a ≤ 1048576 * 1048576) : laws_heldScanS.f k (gmarks mkScan 2 a n) a = some (a + 2 * n) := by
  unfold laws_heldScanS.f
  have := gheld_loop (fun k l a i => laws_heldScanS.l0 k l a i) mkScan 2 z47 n a hn ha hb (by omega) (fun k l a i h1 h2 h3 h4 h5 => ?_) (fun k l a => ?_) n k 0 (by omega) (by omega) hk
  · simpa using this
  · simp only [laws_heldScanS.l0]
    have hrd : rd_T47 l (i : Int) = mkScan a := by simp only [rd_T47, Int.toNat_natCast]; exact h5
    have e1 : wrap64 (a + 1) = a + 1 := wrap_mid (by omega) (by omega)
    have e2 : wrap64 (a + 1 + 1) = a + ((2 : Nat) : Int) := by rw [wrap_mid (by omega) (by omega)]; omega
    rw [if_pos (by omega), if_pos (by omega), hrd, e1, e2, if_pos (show (mkScan a).f0 = IntKind.i8.wrap a from rfl), if_pos (show (mkScan a).f1 = IntKind.i16.wrap (a + 1) from rfl), wrap_mid (i := (i : Int) + 1) (by omega) (by omega)]
    rfl
  · simp only [laws_heldScanS.l0]
    rw [if_neg (by omega)]
end Go.Proofs.Ytjcokfdafingeaa.Q
