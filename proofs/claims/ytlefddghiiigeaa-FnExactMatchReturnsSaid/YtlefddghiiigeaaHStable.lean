/- slices.SortStableFunc at int64, at up to 40 numbers: two insertion sorts of 20, one merge. -/
import Derived.Test.YtlefddghiiigeaaMB
import Derived.Test.YtlefddghiiigeaaMD
set_option linter.unusedVariables false
set_option linter.unusedSimpArgs false
namespace Go.Proofs.Ytlefddghiiigeaa.Q
open Go.RowKit Go.Proofs.YtlefddghiiigeaaW.PrintWords Go.Proofs.YtlefddghiiigeaaW.PrintLast Go.Proofs.YtlefddghiiigeaaW.PrintMore Go.Sort
theorem insSort_at {n : Nat} (cf : Fin (n + 1) → Fin (n + 1) → Int) (g : Nat) (cb : Array Value) (blk cap a b : Nat) (d X : Array (Fin (n + 1))) (w : World) (m0 : Nat)
    (eg : ∀ args w, (callFunc g args).run Try.prog w = .ok (.enter g args) w) (hcmp : CmpF g cb cf blk d.size w) (hH : Holds encF w blk 0 d) (hs : X.size = d.size) (hab : a ≤ b) (hb : b ≤ d.size) (hsz : d.size ≤ 1048576) :
    Calls Try.prog 59 #[.slice (some ⟨blk, 0, none⟩) d.size cap, .int .i64 a, .int .i64 b, .func (.func g) #[] cb] ((putRow encF w blk 0 X).drewN m0) fun e w' =>
      e = .returned (.tuple #[]) ∧ ∃ q, w' = (putRow encF w blk 0 (Sort.insertionSort (ltF cf) X a b)).drewN q := by
  have hc : CmpF g cb cf blk X.size ((putRow encF w blk 0 X).drewN m0) := fun m Y hY h0 x y => by
    have e : (putRow encF ((putRow encF w blk 0 X).drewN m0) blk 0 Y).drewN m = (putRow encF w blk 0 Y).drewN (m0 + m) := by
      rw [← World.drewN_drewN, ← putRow_putRow encF w blk 0 X Y hY]
      rfl
    rw [e]
    exact hcmp (m0 + m) Y (hY.trans hs) (by omega) x y
  have hh : Holds encF ((putRow encF w blk 0 X).drewN m0) blk 0 X := holds_putRow encF w blk 0 d X hH hs
  have := insSort_is cf g cb blk cap a b X ((putRow encF w blk 0 X).drewN m0) eg hc hh hab (by omega) (by omega)
  rw [hs] at this
  refine this.mono ?_
  rintro e w2 ⟨rfl, q, rfl⟩
  refine ⟨rfl, m0 + q, ?_⟩
  rw [← World.drewN_drewN, ← putRow_putRow encF w blk 0 X _ (insertionSort_size _ _ _ _)]
  rfl
/-- What SortStableFunc makes of up to 40. -/
def stab {n : Nat} (lt : Fin (n + 1) → Fin (n + 1) → Bool) (d : Array (Fin (n + 1))) : Array (Fin (n + 1)) :=
  if d.size < 20 then Sort.insertionSort lt d 0 d.size else
    if d.size = 20 then Sort.insertionSort lt d 0 20 else symM lt d.size 0 20 d.size (Sort.insertionSort lt (Sort.insertionSort lt d 0 20) 20 d.size)
theorem ins_none {n : Nat} (lt : Fin (n + 1) → Fin (n + 1) → Bool) (d : Array (Fin (n + 1))) (b : Nat) : Sort.insertionSort lt d b b = d := by
  unfold Sort.insertionSort
  exact insOuter_stop _ _ _ _ _ (by omega)
set_option maxHeartbeats 8000000 in
set_option maxRecDepth 100000 in
theorem stable_mid {n : Nat} (cf : Fin (n + 1) → Fin (n + 1) → Int) (g : Nat) (cb : Array Value) (blk cap : Nat) (d : Array (Fin (n + 1))) (w : World)
    (eg : ∀ args w, (callFunc g args).run Try.prog w = .ok (.enter g args) w) (hcmp : CmpF g cb cf blk d.size w) (hH : Holds encF w blk 0 d) (h1 : 20 ≤ d.size) (h2 : d.size < 40) :
    Calls Try.prog 53 #[.slice (some ⟨blk, 0, none⟩) d.size cap, .int .i64 d.size, .func (.func g) #[] cb] w fun e w' =>
      e = .returned (.tuple #[]) ∧ ∃ q, w' = (putRow encF w blk 0 (stab (ltF cf) d)).drewN q := by
  obtain ⟨D1, hD1⟩ : ∃ D, Sort.insertionSort (ltF cf) d 0 20 = D := ⟨_, rfl⟩
  obtain ⟨D2, hD2⟩ : ∃ D, Sort.insertionSort (ltF cf) D1 20 d.size = D := ⟨_, rfl⟩
  have s1 : D1.size = d.size := by rw [← hD1]; exact insertionSort_size _ _ _ _
  have s2 : D2.size = d.size := by rw [← hD2]; exact (insertionSort_size _ _ _ _).trans s1
  obtain ⟨D3, hD3⟩ : ∃ D, (if d.size = 20 then D2 else symM (ltF cf) d.size 0 20 d.size D2) = D := ⟨_, rfl⟩
  have E : Aside0 (stab (ltF cf) d = D3) := ⟨by
    unfold stab
    rw [if_neg (by omega), hD1, hD2, ← hD3]
    by_cases e : d.size = 20
    · rw [if_pos e, if_pos e, ← hD2, e, ins_none]
    · rw [if_neg e, if_neg e]⟩
  have HC := Aside0.mk hcmp
  have HH := Aside0.mk hH
  have z1 : (20 : Int) ≤ (d.size : Int) := by omega
  have z2 : ¬ (40 : Int) ≤ (d.size : Int) := by omega
  have z3 : ¬ (40 : Int) < (d.size : Int) := by omega
  have HST := Aside0.mk (putRow_self encF w blk 0 d hH).symm
  have I1 : Aside0 (∀ q, Calls Try.prog 59 #[.slice (some ⟨blk, 0, none⟩) d.size cap, .int .i64 0, .int .i64 20, .func (.func g) #[] cb] ((putRow encF w blk 0 d).drewN q) fun e w' =>
      e = .returned (.tuple #[]) ∧ ∃ q, w' = (putRow encF w blk 0 D1).drewN q) := ⟨fun q => by rw [← hD1]; exact insSort_at cf g cb blk cap 0 20 d d w q eg hcmp hH rfl (by omega) h1 (by omega)⟩
  have I2 : Aside0 (∀ q, Calls Try.prog 59 #[.slice (some ⟨blk, 0, none⟩) d.size cap, .int .i64 20, .int .i64 d.size, .func (.func g) #[] cb] ((putRow encF w blk 0 D1).drewN q) fun e w' =>
      e = .returned (.tuple #[]) ∧ ∃ q, w' = (putRow encF w blk 0 D2).drewN q) := ⟨fun q => by rw [← hD2]; exact insSort_at cf g cb blk cap 20 d.size d D1 w q eg hcmp hH s1 h1 (Nat.le_refl _) (by omega)⟩
  have I3 : Aside0 (d.size ≠ 20 → ∀ q, Calls Try.prog 60 #[.slice (some ⟨blk, 0, none⟩) d.size cap, .int .i64 0, .int .i64 20, .int .i64 d.size, .func (.func g) #[] cb] ((putRow encF w blk 0 D2).drewN q) fun e w' =>
      e = .returned (.tuple #[]) ∧ ∃ q, w' = (putRow encF w blk 0 D3).drewN q) := ⟨fun hne q => by rw [← hD3, if_neg hne]; exact symMerge_is cf g cb blk cap d w eg hcmp hH (by omega) d.size 0 20 d.size D2 q s2 (by omega) (by omega) (by omega) (Nat.le_refl _)⟩
  have E0 : Aside0 (d.size = 20 → D3 = D2) := ⟨fun e => by rw [← hD3, if_pos e]⟩
  rw [E.out]
  clear hcmp hH hD1 hD2 hD3 s1 s2 h1 h2
  go_enter Try.func53, Try.ntmps53
  go_wp2
  go_loopg [7, 8] 1 (fun gg v7 v8 wr => (v7 = .int .i64 0 ∧ v8 = .int .i64 20 ∧ 1 ≤ gg ∧ wr = w) ∨ ∃ q, (v7 = .int .i64 20 ∧ v8 = .int .i64 40 ∧ wr = (putRow encF w blk 0 D1).drewN q))
  case atStart => exact .inl ⟨rfl, rfl, Nat.le_refl _, rfl⟩
  case round =>
    rcases hrel with ⟨rfl, rfl, hg, rfl⟩ | ⟨q, rfl, rfl, rfl⟩
    · have i1 := I1.out 0
      rw [show (putRow encF wr blk 0 d).drewN 0 = wr from HST.out.symm] at i1
      go_wp2_with fail
      refine i1.mono ?_
      rintro e w2 ⟨rfl, q, rfl⟩
      go_wp2
      go_roundg 0
      case measure => omega
      case rel => exact .inr ⟨q, by first | rfl | go_num, by first | rfl | go_num, rfl⟩
    · go_wp2_with fail
      refine (I2.out q).mono ?_
      rintro e w2 ⟨rfl, q2, rfl⟩
      go_wp2
      go_loopg [6] 1 (fun gg v6 wr2 => (v6 = .int .i64 20 ∧ 1 ≤ gg ∧ wr2 = (putRow encF w blk 0 D2).drewN q2) ∨ ∃ q3, (v6 = .int .i64 40 ∧ wr2 = (putRow encF w blk 0 D3).drewN q3))
      case atStart => exact .inl ⟨rfl, Nat.le_refl _, rfl⟩
      case round =>
        rcases hrel with ⟨rfl, hg, rfl⟩ | ⟨q3, rfl, rfl⟩
        · by_cases hne : d.size = 20
          · have hnz : ¬ (20 : Int) < (d.size : Int) := by omega
            go_wp2
            first | go_end0 | ((try simp only [Exit.inBlock, Exit.then]); refine bodyPost_ret (results_none rfl _ _ _) rfl ?_)
            exact ⟨rfl, q2, by rw [E0.out hne]⟩
          · have hnz : (20 : Int) < (d.size : Int) := by omega
            go_wp2
            go_loopg [7, 8] 0 (fun gg v7 v8 wr3 => v7 = .int .i64 0 ∧ v8 = .int .i64 40 ∧ wr3 = (putRow encF w blk 0 D2).drewN q2)
            case atStart => exact ⟨rfl, rfl, rfl⟩
            case round =>
              obtain ⟨rfl, rfl, rfl⟩ := hrel
              go_wp2_with fail
              refine (I3.out hne q2).mono ?_
              rintro e w2 ⟨rfl, q4, rfl⟩
              go_wp2
              go_roundg 0
              case measure => omega
              case rel => exact .inr ⟨q4, by first | rfl | go_num, rfl⟩
        · go_wp2
          first | go_end0 | ((try simp only [Exit.inBlock, Exit.then]); refine bodyPost_ret (results_none rfl _ _ _) rfl ?_)
          exact ⟨rfl, q3, rfl⟩
set_option maxHeartbeats 8000000 in
set_option maxRecDepth 100000 in
theorem stable_40 {n : Nat} (cf : Fin (n + 1) → Fin (n + 1) → Int) (g : Nat) (cb : Array Value) (blk cap : Nat) (d : Array (Fin (n + 1))) (w : World)
    (eg : ∀ args w, (callFunc g args).run Try.prog w = .ok (.enter g args) w) (hcmp : CmpF g cb cf blk d.size w) (hH : Holds encF w blk 0 d) (h1 : d.size = 40) :
    Calls Try.prog 53 #[.slice (some ⟨blk, 0, none⟩) d.size cap, .int .i64 d.size, .func (.func g) #[] cb] w fun e w' =>
      e = .returned (.tuple #[]) ∧ ∃ q, w' = (putRow encF w blk 0 (stab (ltF cf) d)).drewN q := by
  obtain ⟨D1, hD1⟩ : ∃ D, Sort.insertionSort (ltF cf) d 0 20 = D := ⟨_, rfl⟩
  obtain ⟨D2, hD2⟩ : ∃ D, Sort.insertionSort (ltF cf) D1 20 40 = D := ⟨_, rfl⟩
  have s1 : D1.size = d.size := by rw [← hD1]; exact insertionSort_size _ _ _ _
  have s2 : D2.size = d.size := by rw [← hD2]; exact (insertionSort_size _ _ _ _).trans s1
  obtain ⟨D3, hD3⟩ : ∃ D, symM (ltF cf) 40 0 20 40 D2 = D := ⟨_, rfl⟩
  have E : Aside0 (stab (ltF cf) d = D3) := ⟨by
    unfold stab
    rw [if_neg (by omega), if_neg (by omega), h1, hD1, hD2, hD3]⟩
  have HST := Aside0.mk (putRow_self encF w blk 0 d hH).symm
  have I1 : Aside0 (∀ q, Calls Try.prog 59 #[.slice (some ⟨blk, 0, none⟩) d.size cap, .int .i64 0, .int .i64 20, .func (.func g) #[] cb] ((putRow encF w blk 0 d).drewN q) fun e w' =>
      e = .returned (.tuple #[]) ∧ ∃ q, w' = (putRow encF w blk 0 D1).drewN q) := ⟨fun q => by rw [← hD1]; exact insSort_at cf g cb blk cap 0 20 d d w q eg hcmp hH rfl (by omega) (by omega) (by omega)⟩
  have I2 : Aside0 (∀ q, Calls Try.prog 59 #[.slice (some ⟨blk, 0, none⟩) d.size cap, .int .i64 20, .int .i64 40, .func (.func g) #[] cb] ((putRow encF w blk 0 D1).drewN q) fun e w' =>
      e = .returned (.tuple #[]) ∧ ∃ q, w' = (putRow encF w blk 0 D2).drewN q) := ⟨fun q => by rw [← hD2]; exact insSort_at cf g cb blk cap 20 40 d D1 w q eg hcmp hH s1 (by omega) (by omega) (by omega)⟩
  have I2b : Aside0 (∀ q, Calls Try.prog 59 #[.slice (some ⟨blk, 0, none⟩) d.size cap, .int .i64 40, .int .i64 40, .func (.func g) #[] cb] ((putRow encF w blk 0 D2).drewN q) fun e w' =>
      e = .returned (.tuple #[]) ∧ ∃ q, w' = (putRow encF w blk 0 D2).drewN q) := ⟨fun q => by
        have := insSort_at cf g cb blk cap 40 40 d D2 w q eg hcmp hH s2 (by omega) (by omega) (by omega)
        rw [ins_none] at this
        exact this⟩
  have I3 : Aside0 (∀ q, Calls Try.prog 60 #[.slice (some ⟨blk, 0, none⟩) d.size cap, .int .i64 0, .int .i64 20, .int .i64 40, .func (.func g) #[] cb] ((putRow encF w blk 0 D2).drewN q) fun e w' =>
      e = .returned (.tuple #[]) ∧ ∃ q, w' = (putRow encF w blk 0 D3).drewN q) := ⟨fun q => by rw [← hD3]; exact symMerge_is cf g cb blk cap d w eg hcmp hH (by omega) 40 0 20 40 D2 q s2 (by omega) (by omega) (by omega) (by omega)⟩
  have hz : (d.size : Int) = 40 := by omega
  rw [E.out, hz]
  clear hcmp hH hD1 hD2 hD3 s1 s2
  rw [h1] at I1 I2 I2b I3 ⊢
  clear h1 hz
  go_enter Try.func53, Try.ntmps53
  go_wp2
  go_loopg [7, 8] 2 (fun gg v7 v8 wr => (v7 = .int .i64 0 ∧ v8 = .int .i64 20 ∧ 2 ≤ gg ∧ wr = w) ∨ (∃ q, (v7 = .int .i64 20 ∧ v8 = .int .i64 40 ∧ 1 ≤ gg ∧ wr = (putRow encF w blk 0 D1).drewN q)) ∨ ∃ q, (v7 = .int .i64 40 ∧ v8 = .int .i64 60 ∧ wr = (putRow encF w blk 0 D2).drewN q))
  case atStart => exact .inl ⟨rfl, rfl, Nat.le_refl _, rfl⟩
  case round =>
    rcases hrel with ⟨rfl, rfl, hg, rfl⟩ | ⟨q, rfl, rfl, hg, rfl⟩ | ⟨q, rfl, rfl, rfl⟩
    · have i1 := I1.out 0
      rw [show (putRow encF wr blk 0 d).drewN 0 = wr from HST.out.symm] at i1
      go_wp2_with fail
      refine i1.mono ?_
      rintro e w2 ⟨rfl, q, rfl⟩
      go_wp2
      go_roundg 1
      case measure => omega
      case rel => exact .inr (.inl ⟨q, by first | rfl | go_num, by first | rfl | go_num, Nat.le_refl _, rfl⟩)
    · go_wp2_with fail
      refine (I2.out q).mono ?_
      rintro e w2 ⟨rfl, q2, rfl⟩
      go_wp2
      go_roundg 0
      case measure => omega
      case rel => exact .inr (.inr ⟨q2, by first | rfl | go_num, by first | rfl | go_num, rfl⟩)
    · go_wp2_with fail
      refine (I2b.out q).mono ?_
      rintro e w2 ⟨rfl, q2, rfl⟩
      go_wp2
      go_loopg [6] 1 (fun gg v6 wr2 => (v6 = .int .i64 20 ∧ 1 ≤ gg ∧ wr2 = (putRow encF w blk 0 D2).drewN q2) ∨ ∃ q3, (v6 = .int .i64 40 ∧ wr2 = (putRow encF w blk 0 D3).drewN q3))
      case atStart => exact .inl ⟨rfl, Nat.le_refl _, rfl⟩
      case round =>
        rcases hrel with ⟨rfl, hg, rfl⟩ | ⟨q3, rfl, rfl⟩
        · go_wp2
          go_loopg [7, 8] 1 (fun gg v7 v8 wr3 => (v7 = .int .i64 0 ∧ v8 = .int .i64 40 ∧ 1 ≤ gg ∧ wr3 = (putRow encF w blk 0 D2).drewN q2) ∨ ∃ q4, (v7 = .int .i64 40 ∧ v8 = .int .i64 80 ∧ wr3 = (putRow encF w blk 0 D3).drewN q4))
          case atStart => exact .inl ⟨rfl, rfl, Nat.le_refl _, rfl⟩
          case round =>
            rcases hrel with ⟨rfl, rfl, hg3, rfl⟩ | ⟨q4, rfl, rfl, rfl⟩
            · go_wp2_with fail
              refine (I3.out q2).mono ?_
              rintro e w2 ⟨rfl, q4, rfl⟩
              go_wp2
              go_roundg 0
              case measure => omega
              case rel => exact .inr ⟨q4, by first | rfl | go_num, by first | rfl | go_num, rfl⟩
            · go_wp2
              go_roundg 0
              case measure => omega
              case rel => exact .inr ⟨q4, by first | rfl | go_num, rfl⟩
        · go_wp2
          first | go_end0 | ((try simp only [Exit.inBlock, Exit.then]); refine bodyPost_ret (results_none rfl _ _ _) rfl ?_)
          exact ⟨rfl, q3, rfl⟩
set_option maxHeartbeats 2000000 in
set_option maxRecDepth 100000 in
/-- slices.SortStableFunc at up to 40 numbers. -/
theorem stable_is {n : Nat} (cf : Fin (n + 1) → Fin (n + 1) → Int) (g : Nat) (cb : Array Value) (blk cap : Nat) (d : Array (Fin (n + 1))) (w : World)
    (eg : ∀ args w, (callFunc g args).run Try.prog w = .ok (.enter g args) w) (hcmp : CmpF g cb cf blk d.size w) (hH : Holds encF w blk 0 d) (hsz : d.size ≤ 40) :
    Calls Try.prog 43 #[.slice (some ⟨blk, 0, none⟩) d.size cap, .func (.func g) #[] cb] w fun e w' =>
      e = .returned (.tuple #[]) ∧ ∃ q, w' = (putRow encF w blk 0 (stab (ltF cf) d)).drewN q := by
  by_cases h20 : d.size < 20
  · have := stable_small cf g cb blk cap d w eg hcmp hH h20
    rw [show stab (ltF cf) d = Sort.insertionSort (ltF cf) d 0 d.size by unfold stab; rw [if_pos h20]]
    exact this
  · have K : Aside0 (Calls Try.prog 53 #[.slice (some ⟨blk, 0, none⟩) d.size cap, .int .i64 d.size, .func (.func g) #[] cb] w fun e w' =>
      e = .returned (.tuple #[]) ∧ ∃ q, w' = (putRow encF w blk 0 (stab (ltF cf) d)).drewN q) := ⟨by
        by_cases h40 : d.size = 40
        · exact stable_40 cf g cb blk cap d w eg hcmp hH h40
        · exact stable_mid cf g cb blk cap d w eg hcmp hH (by omega) (by omega)⟩
    clear hcmp hH
    go_enter Try.func43, Try.ntmps43
    go_wp2_with fail
    refine K.out.mono ?_
    rintro e w2 ⟨rfl, q, rfl⟩
    go_wp2
    go_end0
    exact ⟨rfl, q, rfl⟩
end Go.Proofs.Ytlefddghiiigeaa.Q
