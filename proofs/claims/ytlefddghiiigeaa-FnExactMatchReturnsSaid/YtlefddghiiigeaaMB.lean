/- slices.swapRangeCmpFunc and rotateCmpFunc at int64, over a row of numbers below n + 1: the row holds swapR, rot of what it held. -/
import Derived.Test.YtlefddghiiigeaaOBase
import Derived.Test.YtlefddghiiigeaaHSort
import Derived.Test.YtlefddghiiigeaaSymPure
set_option linter.unusedVariables false
set_option linter.unusedSimpArgs false
namespace Go.Proofs.Ytlefddghiiigeaa.Q
open Go.RowKit Go.Proofs.YtlefddghiiigeaaW.PrintWords Go.Proofs.YtlefddghiiigeaaW.PrintLast Go.Proofs.YtlefddghiiigeaaW.PrintMore Go.Sort
theorem row_cell {n : Nat} (w : World) (blk : Nat) (d X : Array (Fin (n + 1))) (HH : Holds encF w blk 0 d) (hs : X.size = d.size) (m j : Nat) (hj : j < d.size) (x : Fin (n + 1)) (hx : X[j]! = x) :
    ((putRow encF w blk 0 X).drewN m).cell? ⟨blk, j, none⟩ = some (.int .i64 ((x.val : Nat) : Int)) ∧ ((putRow encF w blk 0 X).drewN m).frozen? ⟨blk, j, none⟩ = false := by
  obtain ⟨c, f⟩ := holds_putRow encF w blk 0 d X HH hs j (by omega)
  rw [hx] at c
  simp only [Nat.zero_add] at c f
  exact ⟨c, f⟩
set_option maxHeartbeats 4000000 in
set_option maxRecDepth 1000000 in
theorem swapRange_is {n : Nat} (fv : Value) (blk cap a b k : Nat) (d X : Array (Fin (n + 1))) (w : World) (m0 : Nat) (hH : Holds encF w blk 0 d) (hs : X.size = d.size) (hab : a + k ≤ b) (hb : b + k ≤ d.size) (hsz : d.size ≤ 1048576) :
    Calls Try.prog 62 #[.slice (some ⟨blk, 0, none⟩) d.size cap, .int .i64 a, .int .i64 b, .int .i64 k, fv] ((putRow encF w blk 0 X).drewN m0) fun e w' =>
      e = .returned (.tuple #[]) ∧ ∃ q, w' = (putRow encF w blk 0 (swapR a b k X)).drewN q := by
  have HH := Aside0.mk hH
  clear hH
  go_enter Try.func62, Try.ntmps62
  go_wp2
  go_loopg [10] k (fun gg vi wr => ∃ (i m : Nat) (Y : Array (Fin (n + 1))), vi = .int .i64 i ∧ i ≤ k ∧ k - i ≤ gg ∧ Y.size = d.size ∧ wr = (putRow encF w blk 0 Y).drewN m ∧ Aside0 (Y = swapR a b i X))
  case atStart => exact ⟨0, m0, X, rfl, by omega, by omega, hs, rfl, ⟨rfl⟩⟩
  case round =>
    obtain ⟨i, m, Y, rfl, hik, hg, hsY, rfl, HY⟩ := hrel
    by_cases hlt : i < k
    · have hltz : (i : Int) < (k : Int) := by omega
      obtain ⟨p, hp⟩ : ∃ p, p = a + i := ⟨_, rfl⟩
      obtain ⟨r, hr⟩ : ∃ r, r = b + i := ⟨_, rfl⟩
      obtain ⟨xp, hxp⟩ : ∃ x, Y[p]! = x := ⟨_, rfl⟩
      obtain ⟨xr, hxr⟩ : ∃ x, Y[r]! = x := ⟨_, rfl⟩
      have hpd : p < d.size := by omega
      have hrd : r < d.size := by omega
      have hpr : p ≠ r := by omega
      obtain ⟨cp, fp⟩ := row_cell w blk d Y HH.out hsY m p hpd xp hxp
      obtain ⟨cr, fr⟩ := row_cell w blk d Y HH.out hsY m r hrd xr hxr
      have ep : IntKind.i64.wrap ((a : Int) + (i : Int)) = (p : Int) := by rw [IntKind.wrap_i64]; omega
      have er : IntKind.i64.wrap ((b : Int) + (i : Int)) = (r : Int) := by rw [IntKind.wrap_i64]; omega
      have pz : (p : Int) < (d.size : Int) := by omega
      have rz : (r : Int) < (d.size : Int) := by omega
      have ei : IntKind.i64.wrap ((i : Int) + 1) = ((i + 1 : Nat) : Int) := by rw [IntKind.wrap_i64]; omega
      have P := Aside0.mk hp
      have R := Aside0.mk hr
      have XP := Aside0.mk hxp
      have XR := Aside0.mk hxr
      clear hp hr hxp hxr
      obtain ⟨wq, hwq⟩ : ∃ wq, wq = (putRow encF w blk 0 Y).drewN m := ⟨_, rfl⟩
      rw [← hwq] at cp fp cr fr ⊢
      have HWQ := Aside0.mk hwq
      clear hwq
      go_wp2
      go_region
      all_goals go_wp2
      go_roundg (k - (i + 1))
      case measure => omega
      case rel =>
        refine ⟨i + 1, m + 1, swp Y p r, by first | rfl | go_num | (congr 1; omega), by omega, by omega, by rw [size_swp]; exact hsY, ?_, ⟨?_⟩⟩
        · have := swap_worldC encF w blk 0 Y m p r (by omega) (by omega)
          rw [HWQ.out]
          rw [XP.out, XR.out, Nat.zero_add, Nat.zero_add] at this
          exact this
        · rw [swapR, ← HY.out, P.out, R.out]
    · have hltz : ¬ (i : Int) < (k : Int) := by omega
      go_wp2
      go_end0
      have : i = k := by omega
      subst this
      exact ⟨rfl, m, by rw [HY.out]⟩
set_option maxHeartbeats 4000000 in
set_option maxRecDepth 1000000 in
theorem rotate_is {n : Nat} (fv : Value) (blk cap a m b : Nat) (d X : Array (Fin (n + 1))) (w : World) (m0 : Nat) (hH : Holds encF w blk 0 d) (hs : X.size = d.size) (ham : a < m) (hmb : m < b) (hb : b ≤ d.size) (hsz : d.size ≤ 1048576) :
    Calls Try.prog 61 #[.slice (some ⟨blk, 0, none⟩) d.size cap, .int .i64 a, .int .i64 m, .int .i64 b, fv] ((putRow encF w blk 0 X).drewN m0) fun e w' =>
      e = .returned (.tuple #[]) ∧ ∃ q, w' = (putRow encF w blk 0 (rot m (b - a) (m - a) (b - m) X)).drewN q := by
  have HH := Aside0.mk hH
  clear hH
  have e1 : IntKind.i64.wrap ((m : Int) - (a : Int)) = ((m - a : Nat) : Int) := by rw [IntKind.wrap_i64]; omega
  have e2 : IntKind.i64.wrap ((b : Int) - (m : Int)) = ((b - m : Nat) : Int) := by rw [IntKind.wrap_i64]; omega
  obtain ⟨i0, hi0⟩ : ∃ i0, m - a = i0 := ⟨_, rfl⟩
  obtain ⟨j0, hj0⟩ : ∃ j0, b - m = j0 := ⟨_, rfl⟩
  rw [hi0] at e1 ⊢
  rw [hj0] at e2 ⊢
  have hi1 : 1 ≤ i0 := by omega
  have hi2 : i0 ≤ m := by omega
  have hj1 : 1 ≤ j0 := by omega
  have hj2 : m + j0 ≤ d.size := by omega
  have hij : b - a = i0 + j0 := by omega
  rw [hij]
  clear hi0 hj0 hij
  go_enter Try.func61, Try.ntmps61
  go_wp2
  go_loopg [10, 11] (i0 + j0) (fun gg v10 v11 wr => ∃ (i j q : Nat) (Y : Array (Fin (n + 1))), v10 = .int .i64 i ∧ v11 = .int .i64 j ∧ 1 ≤ i ∧ 1 ≤ j ∧ i ≤ m ∧ m + j ≤ d.size ∧ i + j ≤ gg ∧ Y.size = d.size ∧ wr = (putRow encF w blk 0 Y).drewN q ∧ Aside0 (∀ f, i + j ≤ f → rot m f i j Y = rot m (i0 + j0) i0 j0 X))
  case atStart => exact ⟨i0, j0, m0, X, rfl, rfl, hi1, hj1, hi2, hj2, Nat.le_refl _, hs, rfl, ⟨fun f hf => rot_fuel m _ _ _ _ _ hf (Nat.le_refl _) hi1 hj1⟩⟩
  case round =>
    obtain ⟨i, j, q, Y, rfl, rfl, hi, hj, him, hjd, hg, hsY, rfl, HY⟩ := hrel
    have s1 : IntKind.i64.wrap ((m : Int) - (i : Int)) = ((m - i : Nat) : Int) := by rw [IntKind.wrap_i64]; omega
    by_cases e : i = j
    · subst e
      go_wp2_with fail
      refine (swapRange_is fv blk cap (m - i) m i d Y w q HH.out hsY (by omega) (by omega) hsz).mono ?_
      rintro e w2 ⟨rfl, q2, rfl⟩
      go_wp2
      go_end0
      refine ⟨rfl, q2, ?_⟩
      rw [← HY.out (i + i) (Nat.le_refl _)]
      obtain ⟨i', rfl⟩ : ∃ i', i = i' + 1 := ⟨i - 1, by omega⟩
      rw [show i' + 1 + (i' + 1) = (i' + 1 + i') + 1 from rfl, rot, if_pos rfl]
    · have en : ¬ (i : Int) = (j : Int) := by omega
      by_cases g : j < i
      · have gz : (j : Int) < (i : Int) := by omega
        have s2 : IntKind.i64.wrap ((i : Int) - (j : Int)) = ((i - j : Nat) : Int) := by rw [IntKind.wrap_i64]; omega
        go_wp2_with fail
        refine (swapRange_is fv blk cap (m - i) m j d Y w q HH.out hsY (by omega) (by omega) hsz).mono ?_
        rintro e w2 ⟨rfl, q2, rfl⟩
        go_wp2
        go_roundg (i - j + j)
        case measure => omega
        case rel =>
          refine ⟨i - j, j, q2, swapR (m - i) m j Y, by first | rfl | go_num, rfl, by omega, hj, by omega, hjd, by omega, by rw [swapR_size]; exact hsY, rfl, ⟨fun f hf => ?_⟩⟩
          have := HY.out (f + 1 + i + j) (by omega)
          rw [show f + 1 + i + j = (f + i + j) + 1 by omega, rot, if_neg e, if_pos g] at this
          rw [← this]
          exact rot_fuel m _ _ _ _ _ hf (by omega) (by omega) hj
      · have gz : ¬ (j : Int) < (i : Int) := by omega
        have s2 : IntKind.i64.wrap ((j : Int) - (i : Int)) = ((j - i : Nat) : Int) := by rw [IntKind.wrap_i64]; omega
        obtain ⟨mj, hmj⟩ : ∃ x, m + j = x := ⟨_, rfl⟩
        obtain ⟨mji, hmji⟩ : ∃ x, mj - i = x := ⟨_, rfl⟩
        have s3 : IntKind.i64.wrap ((m : Int) + (j : Int)) = (mj : Int) := by rw [IntKind.wrap_i64]; omega
        have s4 : IntKind.i64.wrap ((mj : Int) - (i : Int)) = (mji : Int) := by rw [IntKind.wrap_i64]; omega
        have b1 : m - i + i ≤ mji := by omega
        have b2 : mji + i ≤ d.size := by omega
        have e3 : m + j - i = mji := by omega
        have E3 := Aside0.mk e3
        clear hmj hmji e3
        go_wp2_with fail
        refine (swapRange_is fv blk cap (m - i) mji i d Y w q HH.out hsY b1 b2 hsz).mono ?_
        rintro e w2 ⟨rfl, q2, rfl⟩
        go_wp2
        go_roundg (i + (j - i))
        case measure => omega
        case rel =>
          refine ⟨i, j - i, q2, swapR (m - i) mji i Y, rfl, by first | rfl | go_num, hi, by omega, him, by omega, by omega, by rw [swapR_size]; exact hsY, rfl, ⟨fun f hf => ?_⟩⟩
          have := HY.out (f + 1 + i + j) (by omega)
          rw [show f + 1 + i + j = (f + i + j) + 1 by omega, rot, if_neg e, if_neg g, E3.out] at this
          rw [← this]
          exact rot_fuel m _ _ _ _ _ hf (by omega) hi (by omega)
end Go.Proofs.Ytlefddghiiigeaa.Q
/- slices.symMergeCmpFunc at int64, over a row of numbers below n + 1, where the comparison tells cf: the row holds symM of what it held. -/
set_option linter.unusedVariables false
set_option linter.unusedSimpArgs false
namespace Go.Proofs.Ytlefddghiiigeaa.Q
open Go.RowKit Go.Proofs.YtlefddghiiigeaaW.PrintWords Go.Proofs.YtlefddghiiigeaaW.PrintLast Go.Proofs.YtlefddghiiigeaaW.PrintMore Go.Sort
theorem srch_stop (p : Nat → Bool) : ∀ (f s r : Nat), r ≤ s → srch p f s r = s
  | 0, s, r, _ => rfl
  | f + 1, s, r, h => by rw [srch, if_neg (by omega)]
theorem srch_fuel (p : Nat → Bool) : ∀ (f f2 s r : Nat), r - s ≤ f → r - s ≤ f2 → srch p f s r = srch p f2 s r
  | 0, f2, s, r, h1, h2 => by rw [srch_stop p 0 s r (by omega), srch_stop p f2 s r (by omega)]
  | f + 1, 0, s, r, h1, h2 => by rw [srch_stop p 0 s r (by omega), srch_stop p (f + 1) s r (by omega)]
  | f + 1, f2 + 1, s, r, h1, h2 => by
    rw [srch, srch]
    by_cases c : s < r
    · rw [if_pos c, if_pos c]
      split
      · exact srch_fuel p f f2 _ _ (by omega) (by omega)
      · exact srch_fuel p f f2 _ _ (by omega) (by omega)
    · rw [if_neg c, if_neg c]
theorem srch_go1 {p : Nat → Bool} {s r R h : Nat} (hs : s < r) (eh : (s + r) / 2 = h) (hp : p h = true) (H : ∀ f, r - s ≤ f → srch p f s r = R) : ∀ f, r - (h + 1) ≤ f → srch p f (h + 1) r = R := fun f hf => by
  have := H (r - s + 1) (by omega)
  rw [srch, if_pos hs, eh, if_pos hp] at this
  rw [← this]
  exact srch_fuel p _ _ _ _ hf (by omega)
theorem srch_go2 {p : Nat → Bool} {s r R h : Nat} (hs : s < r) (eh : (s + r) / 2 = h) (hp : p h = false) (H : ∀ f, r - s ≤ f → srch p f s r = R) : ∀ f, h - s ≤ f → srch p f s h = R := fun f hf => by
  have := H (r - s + 1) (by omega)
  rw [srch, if_pos hs, eh, if_neg (by rw [hp]; exact Bool.false_ne_true)] at this
  rw [← this]
  exact srch_fuel p _ _ _ _ hf (by omega)
theorem srch_end {p : Nat → Bool} {s r R : Nat} (hs : ¬ s < r) (H : ∀ f, r - s ≤ f → srch p f s r = R) : s = R := by
  rw [← H 0 (by omega), srch]
theorem srch_in (p : Nat → Bool) (f s r : Nat) (h : s ≤ r) : s ≤ srch p f s r ∧ srch p f s r ≤ r := by
  induction f generalizing s r with
  | zero => exact ⟨Nat.le_refl _, h⟩
  | succ f ih =>
    rw [srch]
    split
    · split
      · have := ih ((s + r) / 2 + 1) r (by omega); omega
      · have := ih s ((s + r) / 2) (by omega); omega
    · omega
theorem ite_size {α : Type} {c : Prop} [Decidable c] {x y : Array α} {s : Nat} (h1 : x.size = s) (h2 : y.size = s) : (if c then x else y).size = s := by split <;> assumption
theorem symM_size {α : Type} [Inhabited α] (lt : α → α → Bool) : ∀ (f a m b : Nat) (X : Array α), (symM lt f a m b X).size = X.size
  | 0, _, _, _, _ => rfl
  | f + 1, a, m, b, X => by
    rw [symM]
    refine ite_size (shUp_size _ _ _) (ite_size (shDn_size _ _ _) ?_)
    dsimp only
    exact ite_size ((symM_size lt f _ _ _ _).trans (ite_size ((symM_size lt f _ _ _ _).trans (ite_size (rot_size _ _ _ _ _) rfl)) (ite_size (rot_size _ _ _ _ _) rfl))) (ite_size ((symM_size lt f _ _ _ _).trans (ite_size (rot_size _ _ _ _ _) rfl)) (ite_size (rot_size _ _ _ _ _) rfl))
set_option maxHeartbeats 40000000 in
set_option maxRecDepth 1000000 in
theorem symMerge_is {n : Nat} (cf : Fin (n + 1) → Fin (n + 1) → Int) (g : Nat) (cb : Array Value) (blk cap : Nat) (d : Array (Fin (n + 1))) (w : World)
    (eg : ∀ args w, (callFunc g args).run Try.prog w = .ok (.enter g args) w) (hcmp : CmpF g cb cf blk d.size w) (hH : Holds encF w blk 0 d) (hsz : d.size ≤ 1048576) :
    ∀ (f a m b : Nat) (X : Array (Fin (n + 1))) (m0 : Nat), X.size = d.size → b - a ≤ f → a < m → m < b → b ≤ d.size →
    Calls Try.prog 60 #[.slice (some ⟨blk, 0, none⟩) d.size cap, .int .i64 a, .int .i64 m, .int .i64 b, .func (.func g) #[] cb] ((putRow encF w blk 0 X).drewN m0) fun e w' =>
      e = .returned (.tuple #[]) ∧ ∃ q, w' = (putRow encF w blk 0 (symM (ltF cf) f a m b X)).drewN q := by
  have hcAt : ∀ (X : Array (Fin (n + 1))) (x y : Fin (n + 1)), X.size = d.size → 0 < d.size → ∀ m n', Calls Try.prog g (#[encF x, encF y] ++ cb) (((putRow encF w blk 0 X).drewN m).drewN n') fun e w' => e = .returned (.int .i64 (cf x y)) ∧ ∃ q, w' = (((putRow encF w blk 0 X).drewN m).drewN n').drewN q := fun X x y hX h0 m n' => by
    have := hcmp (m + n') X hX h0 x y
    rw [← World.drewN_drewN] at this
    exact this
  have HC := Aside0.mk hcAt
  have HH := Aside0.mk hH
  clear hcAt hcmp hH
  intro f
  induction f with
  | zero => intro a m b X m0 h1 h2 h3 h4 h5; omega
  | succ f ih =>
    intro a m b X m0 hs hf ham hmb hb
    have IH := Aside0.mk ih
    clear ih
    by_cases c1 : m - a = 1
    · have z1 : IntKind.i64.wrap ((m : Int) - (a : Int)) = 1 := by rw [IntKind.wrap_i64]; omega
      obtain ⟨R, hR⟩ : ∃ R, srch (fun h => ltF cf X[h]! X[a]!) (b - m) m b = R := ⟨_, rfl⟩
      have hRb : m ≤ R ∧ R ≤ b := by rw [← hR]; exact srch_in _ _ _ _ (by omega)
      obtain ⟨hR1, hR2⟩ := hRb
      have RS : Aside0 (symM (ltF cf) (f + 1) a m b X = shUp a (R - 1 - a) X) := ⟨by rw [symM, if_pos c1, hR]⟩
      have R0 : Aside0 (∀ f', b - m ≤ f' → srch (fun h => ltF cf X[h]! X[a]!) f' m b = R) := ⟨fun f' hf => by rw [← hR]; exact srch_fuel _ _ _ _ _ hf (Nat.le_refl _)⟩
      clear hR
      obtain ⟨xa, hxa⟩ : ∃ x, X[a]! = x := ⟨_, rfl⟩
      have XA := Aside0.mk hxa
      clear hxa c1
      go_enter Try.func60, Try.ntmps60
      go_wp2
      go_loopg [10, 11] (b - m) (fun gg v10 v11 wr => ∃ (i j q : Nat), v10 = .int .i64 i ∧ v11 = .int .i64 j ∧ m ≤ i ∧ i ≤ j ∧ j ≤ b ∧ j - i ≤ gg ∧ wr = (putRow encF w blk 0 X).drewN q ∧ Aside0 (∀ f', j - i ≤ f' → srch (fun h => ltF cf X[h]! X[a]!) f' i j = R))
      case atStart => exact ⟨m, b, m0, rfl, rfl, Nat.le_refl _, by omega, Nat.le_refl _, Nat.le_refl _, rfl, R0⟩
      case round =>
        obtain ⟨i, j, q, rfl, rfl, h1, h2, h3, hg, rfl, HI⟩ := hrel
        by_cases hlt : i < j
        · have hltz : (i : Int) < (j : Int) := by omega
          obtain ⟨h, hh⟩ : ∃ h, (i + j) / 2 = h := ⟨_, rfl⟩
          have eh : ((i : Int) + (j : Int)) / 2 = (h : Int) := by omega
          have hh1 : i ≤ h := by omega
          have hh2 : h < j := by omega
          have HHH := Aside0.mk hh
          obtain ⟨xh, hxh⟩ : ∃ x, X[h]! = x := ⟨_, rfl⟩
          obtain ⟨cp, fp⟩ := row_cell w blk d X HH.out hs q h (by omega) xh hxh
          obtain ⟨cr, fr⟩ := row_cell w blk d X HH.out hs q a (by omega) xa XA.out
          have hc := HC.out X xh xa hs (by omega) q
          have hz : (h : Int) < (d.size : Int) := by omega
          have az : (a : Int) < (d.size : Int) := by omega
          have XH := Aside0.mk hxh
          have wh : IntKind.i64.wrap ((h : Int) + 1) = ((h + 1 : Nat) : Int) := by rw [IntKind.wrap_i64]; omega
          clear hxh hh fp fr
          obtain ⟨wq, hwq⟩ : ∃ wq, wq = (putRow encF w blk 0 X).drewN q := ⟨_, rfl⟩
          rw [← hwq] at cp cr hc ⊢
          have HWQ := Aside0.mk hwq
          clear hwq
          by_cases hlv : cf xh xa < 0
          · go_wp2_with fail
            go_quiet ((go_at_fn g; refine Calls.quiet_of (hc _)))
            go_wp2_with fail
            go_roundg (j - (h + 1))
            case measure => omega
            case rel => exact ⟨h + 1, j, _, by first | rfl | go_num, rfl, by omega, by omega, by omega, Nat.le_refl _, by rw [HWQ.out, World.drewN_drewN], ⟨srch_go1 hlt HHH.out (by show ltF cf X[h]! X[a]! = true; rw [XH.out, XA.out]; exact decide_eq_true hlv) HI.out⟩⟩
          · go_wp2_with fail
            go_quiet ((go_at_fn g; refine Calls.quiet_of (hc _)))
            go_wp2_with fail
            go_roundg (h - i)
            case measure => omega
            case rel => exact ⟨i, h, _, rfl, by first | rfl | go_num, by omega, by omega, by omega, Nat.le_refl _, by rw [HWQ.out, World.drewN_drewN], ⟨srch_go2 hlt HHH.out (by show ltF cf X[h]! X[a]! = false; rw [XH.out, XA.out]; exact decide_eq_false (by omega)) HI.out⟩⟩
        · have hltz : ¬ (i : Int) < (j : Int) := by omega
          obtain rfl : i = R := srch_end hlt HI.out
          obtain ⟨ip, hip⟩ : ∃ ip, i - 1 = ip := ⟨_, rfl⟩
          have wi : IntKind.i64.wrap ((i : Int) - 1) = (ip : Int) := by rw [IntKind.wrap_i64]; omega
          have i1 : a ≤ ip := by omega
          have i2 : ip + 1 ≤ d.size := by omega
          rw [hip] at RS
          clear hip HI R0
          go_wp2
          go_loopg [13] (ip - a) (fun gg v13 wr => ∃ (k q : Nat) (Y : Array (Fin (n + 1))), v13 = .int .i64 k ∧ a ≤ k ∧ k ≤ ip ∧ ip - k ≤ gg ∧ Y.size = d.size ∧ wr = (putRow encF w blk 0 Y).drewN q ∧ Aside0 (Y = shUp a (k - a) X))
          case atStart => exact ⟨a, q, X, rfl, Nat.le_refl _, i1, Nat.le_refl _, hs, rfl, ⟨by rw [Nat.sub_self]; rfl⟩⟩
          case round =>
            obtain ⟨k, q2, Y, rfl, k1, k2, kg, hsY, rfl, HY⟩ := hrel
            by_cases klt : k < ip
            · have kltz : (k : Int) < (ip : Int) := by omega
              obtain ⟨k', hk'⟩ : ∃ k', k + 1 = k' := ⟨_, rfl⟩
              obtain ⟨xp, hxp⟩ : ∃ x, Y[k]! = x := ⟨_, rfl⟩
              obtain ⟨xr, hxr⟩ : ∃ x, Y[k']! = x := ⟨_, rfl⟩
              have hpd : k < d.size := by omega
              have hrd : k' < d.size := by omega
              have hpr : k ≠ k' := by omega
              obtain ⟨cp, fp⟩ := row_cell w blk d Y HH.out hsY q2 k hpd xp hxp
              obtain ⟨cr, fr⟩ := row_cell w blk d Y HH.out hsY q2 k' hrd xr hxr
              have er : IntKind.i64.wrap ((k : Int) + 1) = (k' : Int) := by rw [IntKind.wrap_i64]; omega
              have pz : (k : Int) < (d.size : Int) := by omega
              have rz : (k' : Int) < (d.size : Int) := by omega
              have KK := Aside0.mk hk'
              have XP := Aside0.mk hxp
              have XR := Aside0.mk hxr
              clear hxp hxr hk'
              obtain ⟨wq, hwq⟩ : ∃ wq, wq = (putRow encF w blk 0 Y).drewN q2 := ⟨_, rfl⟩
              rw [← hwq] at cp fp cr fr ⊢
              have HWQ := Aside0.mk hwq
              clear hwq
              go_wp2
              go_region
              all_goals go_wp2
              go_roundg (ip - k')
              case measure => have := KK.out; omega
              case rel =>
                refine ⟨k', q2 + 1, swp Y k k', by first | rfl | go_num | (congr 1; omega), by have := KK.out; omega, by have := KK.out; omega, Nat.le_refl _, by rw [size_swp]; exact hsY, ?_, ⟨?_⟩⟩
                · have := swap_worldC encF w blk 0 Y q2 k k' (by omega) (by omega)
                  rw [HWQ.out]
                  rw [XP.out, XR.out, Nat.zero_add, Nat.zero_add] at this
                  exact this
                · have e := KK.out
                  rw [show k' - a = (k - a) + 1 by omega, shUp, ← HY.out, show a + (k - a) = k by omega, e]
            · have kltz : ¬ (k : Int) < (ip : Int) := by omega
              go_wp2
              first | go_end0 | ((try simp only [Exit.inBlock, Exit.then]); refine bodyPost_ret (results_none rfl _ _ _) rfl ?_)
              have : k = ip := by omega
              subst this
              exact ⟨rfl, q2, by rw [RS.out, HY.out]⟩
    · by_cases c2 : b - m = 1
      · have z1 : IntKind.i64.wrap ((m : Int) - (a : Int)) = ((m : Int) - (a : Int)) := by rw [IntKind.wrap_i64]; omega
        have z3 : ((m : Int) - (a : Int) == 1) = false := by simp; omega
        have z2 : IntKind.i64.wrap ((b : Int) - (m : Int)) = 1 := by rw [IntKind.wrap_i64]; omega
        obtain ⟨R, hR⟩ : ∃ R, srch (fun h => !ltF cf X[m]! X[h]!) (m - a) a m = R := ⟨_, rfl⟩
        have hRb : a ≤ R ∧ R ≤ m := by rw [← hR]; exact srch_in _ _ _ _ (by omega)
        obtain ⟨hR1, hR2⟩ := hRb
        have RS : Aside0 (symM (ltF cf) (f + 1) a m b X = shDn m (m - R) X) := ⟨by rw [symM, if_neg c1, if_pos c2, hR]⟩
        have R0 : Aside0 (∀ f', m - a ≤ f' → srch (fun h => !ltF cf X[m]! X[h]!) f' a m = R) := ⟨fun f' hf => by rw [← hR]; exact srch_fuel _ _ _ _ _ hf (Nat.le_refl _)⟩
        clear hR
        obtain ⟨xm, hxm⟩ : ∃ x, X[m]! = x := ⟨_, rfl⟩
        have XM := Aside0.mk hxm
        clear hxm c1 c2
        go_enter Try.func60, Try.ntmps60
        go_wp2
        go_loopg [14, 15] (m - a) (fun gg v10 v11 wr => ∃ (i j q : Nat), v10 = .int .i64 i ∧ v11 = .int .i64 j ∧ a ≤ i ∧ i ≤ j ∧ j ≤ m ∧ j - i ≤ gg ∧ wr = (putRow encF w blk 0 X).drewN q ∧ Aside0 (∀ f', j - i ≤ f' → srch (fun h => !ltF cf X[m]! X[h]!) f' i j = R))
        case atStart => exact ⟨a, m, m0, rfl, rfl, Nat.le_refl _, by omega, Nat.le_refl _, Nat.le_refl _, rfl, R0⟩
        case round =>
          obtain ⟨i, j, q, rfl, rfl, h1, h2, h3, hg, rfl, HI⟩ := hrel
          by_cases hlt : i < j
          · have hltz : (i : Int) < (j : Int) := by omega
            obtain ⟨h, hh⟩ : ∃ h, (i + j) / 2 = h := ⟨_, rfl⟩
            have eh : ((i : Int) + (j : Int)) / 2 = (h : Int) := by omega
            have hh1 : i ≤ h := by omega
            have hh2 : h < j := by omega
            have HHH := Aside0.mk hh
            obtain ⟨xh, hxh⟩ : ∃ x, X[h]! = x := ⟨_, rfl⟩
            obtain ⟨cp, fp⟩ := row_cell w blk d X HH.out hs q h (by omega) xh hxh
            obtain ⟨cr, fr⟩ := row_cell w blk d X HH.out hs q m (by omega) xm XM.out
            have hc := HC.out X xm xh hs (by omega) q
            have hz : (h : Int) < (d.size : Int) := by omega
            have az : (m : Int) < (d.size : Int) := by omega
            have XH := Aside0.mk hxh
            have wh : IntKind.i64.wrap ((h : Int) + 1) = ((h + 1 : Nat) : Int) := by rw [IntKind.wrap_i64]; omega
            clear hxh hh fp fr
            obtain ⟨wq, hwq⟩ : ∃ wq, wq = (putRow encF w blk 0 X).drewN q := ⟨_, rfl⟩
            rw [← hwq] at cp cr hc ⊢
            have HWQ := Aside0.mk hwq
            clear hwq
            by_cases hlv : cf xm xh < 0
            · go_wp2_with fail
              go_quiet ((go_at_fn g; refine Calls.quiet_of (hc _)))
              go_wp2_with fail
              go_roundg (h - i)
              case measure => omega
              case rel => exact ⟨i, h, _, rfl, by first | rfl | go_num, by omega, by omega, by omega, Nat.le_refl _, by rw [HWQ.out, World.drewN_drewN], ⟨srch_go2 hlt HHH.out (by show (!ltF cf X[m]! X[h]!) = false; rw [XH.out, XM.out, ltF, decide_eq_true hlv]; rfl) HI.out⟩⟩
            · have hl2 : (!decide (cf xm xh < 0)) = true := by rw [decide_eq_false hlv]; rfl
              go_wp2_with fail
              go_quiet ((go_at_fn g; refine Calls.quiet_of (hc _)))
              go_wp2_with fail
              go_roundg (j - (h + 1))
              case measure => omega
              case rel => exact ⟨h + 1, j, _, by first | rfl | go_num, rfl, by omega, by omega, by omega, Nat.le_refl _, by rw [HWQ.out, World.drewN_drewN], ⟨srch_go1 hlt HHH.out (by show (!ltF cf X[m]! X[h]!) = true; rw [XH.out, XM.out, ltF, decide_eq_false (show ¬ cf xm xh < 0 by omega)]; rfl) HI.out⟩⟩
          · have hltz : ¬ (i : Int) < (j : Int) := by omega
            obtain rfl : i = R := srch_end hlt HI.out
            clear HI R0
            go_wp2
            go_loopg [17] (m - i) (fun gg v13 wr => ∃ (k q : Nat) (Y : Array (Fin (n + 1))), v13 = .int .i64 k ∧ i ≤ k ∧ k ≤ m ∧ k - i ≤ gg ∧ Y.size = d.size ∧ wr = (putRow encF w blk 0 Y).drewN q ∧ Aside0 (Y = shDn m (m - k) X))
            case atStart => exact ⟨m, q, X, rfl, hR2, Nat.le_refl _, Nat.le_refl _, hs, rfl, ⟨by rw [Nat.sub_self]; rfl⟩⟩
            case round =>
              obtain ⟨k, q2, Y, rfl, k1, k2, kg, hsY, rfl, HY⟩ := hrel
              by_cases klt : i < k
              · have kltz : (i : Int) < (k : Int) := by omega
                obtain ⟨k', hk'⟩ : ∃ k', k - 1 = k' := ⟨_, rfl⟩
                obtain ⟨xp, hxp⟩ : ∃ x, Y[k]! = x := ⟨_, rfl⟩
                obtain ⟨xr, hxr⟩ : ∃ x, Y[k']! = x := ⟨_, rfl⟩
                have hpd : k < d.size := by omega
                have hrd : k' < d.size := by omega
                have hpr : k ≠ k' := by omega
                obtain ⟨cp, fp⟩ := row_cell w blk d Y HH.out hsY q2 k hpd xp hxp
                obtain ⟨cr, fr⟩ := row_cell w blk d Y HH.out hsY q2 k' hrd xr hxr
                have er : IntKind.i64.wrap ((k : Int) - 1) = (k' : Int) := by rw [IntKind.wrap_i64]; omega
                have pz : (k : Int) < (d.size : Int) := by omega
                have rz : (k' : Int) < (d.size : Int) := by omega
                have KK := Aside0.mk hk'
                have XP := Aside0.mk hxp
                have XR := Aside0.mk hxr
                clear hxp hxr hk'
                obtain ⟨wq, hwq⟩ : ∃ wq, wq = (putRow encF w blk 0 Y).drewN q2 := ⟨_, rfl⟩
                rw [← hwq] at cp fp cr fr ⊢
                have HWQ := Aside0.mk hwq
                clear hwq
                go_wp2
                go_region
                all_goals go_wp2
                go_roundg (k' - i)
                case measure => have := KK.out; omega
                case rel =>
                  refine ⟨k', q2 + 1, swp Y k k', by first | rfl | go_num | (congr 1; omega), by have := KK.out; omega, by have := KK.out; omega, Nat.le_refl _, by rw [size_swp]; exact hsY, ?_, ⟨?_⟩⟩
                  · have := swap_worldC encF w blk 0 Y q2 k k' (by omega) (by omega)
                    rw [HWQ.out]
                    rw [XP.out, XR.out, Nat.zero_add, Nat.zero_add] at this
                    exact this
                  · have e := KK.out
                    rw [show m - k' = (m - k) + 1 by omega, shDn, ← HY.out, show m - (m - k) = k by omega, e]
              · have kltz : ¬ (i : Int) < (k : Int) := by omega
                go_wp2
                first | go_end0 | ((try simp only [Exit.inBlock, Exit.then]); refine bodyPost_ret (results_none rfl _ _ _) rfl ?_)
                have : k = i := by omega
                subst this
                exact ⟨rfl, q2, by rw [RS.out, HY.out]⟩
      · have z1 : IntKind.i64.wrap ((m : Int) - (a : Int)) = ((m : Int) - (a : Int)) := by rw [IntKind.wrap_i64]; omega
        have z3 : ((m : Int) - (a : Int) == 1) = false := by simp; omega
        have z2 : IntKind.i64.wrap ((b : Int) - (m : Int)) = ((b : Int) - (m : Int)) := by rw [IntKind.wrap_i64]; omega
        have z4 : ((b : Int) - (m : Int) == 1) = false := by simp; omega
        obtain ⟨mid, hmid⟩ : ∃ mid, (a + b) / 2 = mid := ⟨_, rfl⟩
        have emid : ((a : Int) + (b : Int)) / 2 = (mid : Int) := by omega
        obtain ⟨nn, hnn⟩ : ∃ nn, mid + m = nn := ⟨_, rfl⟩
        have enn : IntKind.i64.wrap ((mid : Int) + (m : Int)) = (nn : Int) := by rw [IntKind.wrap_i64]; omega
        obtain ⟨pp, hpp⟩ : ∃ pp, nn - 1 = pp := ⟨_, rfl⟩
        have epp : IntKind.i64.wrap ((nn : Int) - 1) = (pp : Int) := by rw [IntKind.wrap_i64]; omega
        have m1 : a + 2 ≤ mid := by omega
        have m2 : mid + 2 ≤ b := by omega
        obtain ⟨s0, hs0⟩ : ∃ s0, (if mid < m then nn - b else a) = s0 := ⟨_, rfl⟩
        obtain ⟨r0, hr0⟩ : ∃ r0, (if mid < m then mid else m) = r0 := ⟨_, rfl⟩
        have hb0 : a ≤ s0 ∧ s0 ≤ r0 ∧ r0 ≤ m ∧ r0 ≤ mid ∧ r0 ≤ pp ∧ pp ≤ s0 + b - 1 ∧ (mid < m → s0 + b = nn ∧ r0 = mid) ∧ (¬ mid < m → s0 = a ∧ r0 = m) := by
          rw [← hs0, ← hr0]
          by_cases c : mid < m
          · rw [if_pos c, if_pos c]; omega
          · rw [if_neg c, if_neg c]; omega
        obtain ⟨b1, b2, b3, b4, b5, b6, b7, b8⟩ := hb0
        obtain ⟨R, hR⟩ : ∃ R, srch (fun c => !ltF cf X[pp - c]! X[c]!) (b - a) s0 r0 = R := ⟨_, rfl⟩
        have hRb : s0 ≤ R ∧ R ≤ r0 := by rw [← hR]; exact srch_in _ _ _ _ (by omega)
        obtain ⟨hR1, hR2⟩ := hRb
        obtain ⟨en, hen⟩ : ∃ en, nn - R = en := ⟨_, rfl⟩
        have een : IntKind.i64.wrap ((nn : Int) - (R : Int)) = (en : Int) := by rw [IntKind.wrap_i64]; omega
        have hn1 : mid ≤ en := by omega
        have hn2 : en ≤ b := by omega
        have hn3 : m ≤ en := by omega
        have hn4 : R ≤ m := by omega
        have hn5 : R ≤ mid := by omega
        have hn6 : a ≤ R := by omega
        have RS : Aside0 (symM (ltF cf) (f + 1) a m b X = (let d1 := if R < m ∧ m < en then rot m (en - R) (m - R) (en - m) X else X
            let d2 := if a < R ∧ R < mid then symM (ltF cf) f a R mid d1 else d1
            if mid < en ∧ en < b then symM (ltF cf) f mid en b d2 else d2)) := ⟨by
          have e : (if mid < m then srch (fun c => !ltF cf X[mid + m - 1 - c]! X[c]!) (b - a) (mid + m - b) mid else srch (fun c => !ltF cf X[mid + m - 1 - c]! X[c]!) (b - a) a m) = R := by
            rw [hnn, hpp]
            rw [← hR, ← hs0, ← hr0]
            by_cases c : mid < m
            · rw [if_pos c, if_pos c, if_pos c]
            · rw [if_neg c, if_neg c, if_neg c]
          rw [symM, if_neg c1, if_neg c2]
          simp only [hmid]
          rw [e, hnn, hen]⟩
        have R0 : Aside0 (∀ f', r0 - s0 ≤ f' → srch (fun c => !ltF cf X[pp - c]! X[c]!) f' s0 r0 = R) := ⟨fun f' hf => by rw [← hR]; exact srch_fuel _ _ _ _ _ hf (by omega)⟩
        have B5 := Aside0.mk (And.intro b5 b6)
        have EN : Aside0 (en + R = mid + m) := ⟨by omega⟩
        have MM := Aside0.mk hmid
        clear hR hen hmid hnn hpp hs0 hr0 c1 c2 b5 b6
        by_cases c : mid < m
        · have cz : (mid : Int) < (m : Int) := by omega
          obtain ⟨g1, g2⟩ := b7 c
          have g3 : mid = r0 := g2.symm
          subst g3
          have es : IntKind.i64.wrap ((nn : Int) - (b : Int)) = (s0 : Int) := by rw [IntKind.wrap_i64]; omega
          clear g1 g2
          go_enter Try.func60, Try.ntmps60
          go_wp2
          clear b7 b8 z1 z2 z3 z4 emid enn epp
          go_loopg [20, 21] (mid - s0) (fun gg v10 v11 wr => ∃ (i j q : Nat), v10 = .int .i64 i ∧ v11 = .int .i64 j ∧ s0 ≤ i ∧ i ≤ j ∧ j ≤ mid ∧ j - i ≤ gg ∧ wr = (putRow encF w blk 0 X).drewN q ∧ Aside0 (∀ f', j - i ≤ f' → srch (fun c => !ltF cf X[pp - c]! X[c]!) f' i j = R))
          case atStart => exact ⟨s0, mid, m0, rfl, rfl, Nat.le_refl _, b2, Nat.le_refl _, Nat.le_refl _, rfl, R0⟩
          case round =>
            obtain ⟨i, j, q, rfl, rfl, h1, h2, h3, hg, rfl, HI⟩ := hrel
            by_cases hlt : i < j
            · have hltz : (i : Int) < (j : Int) := by omega
              obtain ⟨h, hh⟩ : ∃ h, (i + j) / 2 = h := ⟨_, rfl⟩
              have eh : ((i : Int) + (j : Int)) / 2 = (h : Int) := by omega
              have hh1 : i ≤ h := by omega
              have hh2 : h < j := by omega
              have HHH := Aside0.mk hh
              obtain ⟨pc, hpc⟩ : ∃ pc, pp - h = pc := ⟨_, rfl⟩
              have hpcd : pc < d.size := by have := B5.out; omega
              have epc : IntKind.i64.wrap ((pp : Int) - (h : Int)) = (pc : Int) := by have := B5.out; rw [IntKind.wrap_i64]; omega
              obtain ⟨xp, hxp⟩ : ∃ x, X[pc]! = x := ⟨_, rfl⟩
              obtain ⟨xh, hxh⟩ : ∃ x, X[h]! = x := ⟨_, rfl⟩
              obtain ⟨cp, fp⟩ := row_cell w blk d X HH.out hs q h (by omega) xh hxh
              obtain ⟨cr, fr⟩ := row_cell w blk d X HH.out hs q pc hpcd xp hxp
              have hc := HC.out X xp xh hs (by omega) q
              have hz : (h : Int) < (d.size : Int) := by omega
              have az : (pc : Int) < (d.size : Int) := by omega
              have XH := Aside0.mk hxh
              have XP := Aside0.mk hxp
              have PC := Aside0.mk hpc
              have wh : IntKind.i64.wrap ((h : Int) + 1) = ((h + 1 : Nat) : Int) := by rw [IntKind.wrap_i64]; omega
              clear hxh hxp hh hpc fp fr
              obtain ⟨wq, hwq⟩ : ∃ wq, wq = (putRow encF w blk 0 X).drewN q := ⟨_, rfl⟩
              rw [← hwq] at cp cr hc ⊢
              have HWQ := Aside0.mk hwq
              clear hwq
              by_cases hlv : cf xp xh < 0
              · go_wp2_with fail
                go_quiet ((go_at_fn g; refine Calls.quiet_of (hc _)))
                go_wp2_with fail
                go_roundg (h - i)
                case measure => omega
                case rel => exact ⟨i, h, _, rfl, by first | rfl | go_num, by omega, by omega, by omega, Nat.le_refl _, by rw [HWQ.out, World.drewN_drewN], ⟨srch_go2 hlt HHH.out (by show (!ltF cf X[pp - h]! X[h]!) = false; rw [PC.out, XH.out, XP.out, ltF, decide_eq_true hlv]; rfl) HI.out⟩⟩
              · have hl2 : (!decide (cf xp xh < 0)) = true := by rw [decide_eq_false hlv]; rfl
                go_wp2_with fail
                go_quiet ((go_at_fn g; refine Calls.quiet_of (hc _)))
                go_wp2_with fail
                go_roundg (j - (h + 1))
                case measure => omega
                case rel => exact ⟨h + 1, j, _, by first | rfl | go_num, rfl, by omega, by omega, by omega, Nat.le_refl _, by rw [HWQ.out, World.drewN_drewN], ⟨srch_go1 hlt HHH.out (by show (!ltF cf X[pp - h]! X[h]!) = true; rw [PC.out, XH.out, XP.out, ltF, decide_eq_false (show ¬ cf xp xh < 0 by omega)]; rfl) HI.out⟩⟩
            · have hltz : ¬ (i : Int) < (j : Int) := by omega
              obtain rfl : i = R := srch_end hlt HI.out
              clear HI R0 B5 h1 h2 h3 hg hlt
              have enx : en + i = mid + m := by have := EN.out; omega
              by_cases A1 : i < m
              · have Az1 : (i : Int) < (m : Int) := by omega
                have Az2 : (mid : Int) < (en : Int) := by omega
                have A2 : (mid < en) := by omega
                by_cases B1 : m < en
                · have Bz1 : (m : Int) < (en : Int) := by omega
                  have Bz2 : (i : Int) < (mid : Int) := by omega
                  have B2 : (i < mid) := by omega
                  by_cases C1 : a < i
                  · have Cz1 : (a : Int) < (i : Int) := by omega
                    by_cases D1 : en < b
                    · have Dz1 : (en : Int) < (b : Int) := by omega
                      go_wp2_with fail
                      have sz1 : (rot m (en - i) (m - i) (en - m) X).size = d.size := (rot_size _ _ _ _ _).trans hs
                      refine (rotate_is _ blk cap i m en d X w q HH.out hs A1 B1 (by omega) hsz).mono ?_
                      rintro e w3 ⟨rfl, q3, rfl⟩
                      go_wp2_with fail
                      have sz2 : (symM (ltF cf) f a i mid (rot m (en - i) (m - i) (en - m) X)).size = d.size := (symM_size _ _ _ _ _ _).trans sz1
                      refine (IH.out a i mid (rot m (en - i) (m - i) (en - m) X) q3 sz1 (by omega) C1 B2 (by omega)).mono ?_
                      rintro e w4 ⟨rfl, q4, rfl⟩
                      go_wp2_with fail
                      have sz3 : (symM (ltF cf) f mid en b (symM (ltF cf) f a i mid (rot m (en - i) (m - i) (en - m) X))).size = d.size := (symM_size _ _ _ _ _ _).trans sz2
                      refine (IH.out mid en b (symM (ltF cf) f a i mid (rot m (en - i) (m - i) (en - m) X)) q4 sz2 (by omega) A2 D1 hb).mono ?_
                      rintro e w5 ⟨rfl, q5, rfl⟩
                      go_wp2_with fail
                      first | go_end0 | ((try simp only [Exit.inBlock, Exit.then]); refine bodyPost_ret (results_none rfl _ _ _) rfl ?_)
                      have e := RS.out
                      simp only [if_pos (And.intro A1 B1), if_pos (And.intro C1 B2), if_pos (And.intro A2 D1)] at e
                      exact ⟨rfl, q5, by rw [e]⟩
                    · have Dz1 : ¬ (en : Int) < (b : Int) := by omega
                      go_wp2_with fail
                      have sz1 : (rot m (en - i) (m - i) (en - m) X).size = d.size := (rot_size _ _ _ _ _).trans hs
                      refine (rotate_is _ blk cap i m en d X w q HH.out hs A1 B1 (by omega) hsz).mono ?_
                      rintro e w3 ⟨rfl, q3, rfl⟩
                      go_wp2_with fail
                      have sz2 : (symM (ltF cf) f a i mid (rot m (en - i) (m - i) (en - m) X)).size = d.size := (symM_size _ _ _ _ _ _).trans sz1
                      refine (IH.out a i mid (rot m (en - i) (m - i) (en - m) X) q3 sz1 (by omega) C1 B2 (by omega)).mono ?_
                      rintro e w4 ⟨rfl, q4, rfl⟩
                      go_wp2_with fail
                      first | go_end0 | ((try simp only [Exit.inBlock, Exit.then]); refine bodyPost_ret (results_none rfl _ _ _) rfl ?_)
                      have e := RS.out
                      simp only [if_pos (And.intro A1 B1), if_pos (And.intro C1 B2), if_neg (show ¬ (mid < en ∧ en < b) from fun h => D1 h.2)] at e
                      exact ⟨rfl, q4, by rw [e]⟩
                  · have Cz1 : ¬ (a : Int) < (i : Int) := by omega
                    by_cases D1 : en < b
                    · have Dz1 : (en : Int) < (b : Int) := by omega
                      go_wp2_with fail
                      have sz1 : (rot m (en - i) (m - i) (en - m) X).size = d.size := (rot_size _ _ _ _ _).trans hs
                      refine (rotate_is _ blk cap i m en d X w q HH.out hs A1 B1 (by omega) hsz).mono ?_
                      rintro e w3 ⟨rfl, q3, rfl⟩
                      go_wp2_with fail
                      have sz2 : (symM (ltF cf) f mid en b (rot m (en - i) (m - i) (en - m) X)).size = d.size := (symM_size _ _ _ _ _ _).trans sz1
                      refine (IH.out mid en b (rot m (en - i) (m - i) (en - m) X) q3 sz1 (by omega) A2 D1 hb).mono ?_
                      rintro e w4 ⟨rfl, q4, rfl⟩
                      go_wp2_with fail
                      first | go_end0 | ((try simp only [Exit.inBlock, Exit.then]); refine bodyPost_ret (results_none rfl _ _ _) rfl ?_)
                      have e := RS.out
                      simp only [if_pos (And.intro A1 B1), if_neg (show ¬ (a < i ∧ i < mid) from fun h => C1 h.1), if_pos (And.intro A2 D1)] at e
                      exact ⟨rfl, q4, by rw [e]⟩
                    · have Dz1 : ¬ (en : Int) < (b : Int) := by omega
                      go_wp2_with fail
                      have sz1 : (rot m (en - i) (m - i) (en - m) X).size = d.size := (rot_size _ _ _ _ _).trans hs
                      refine (rotate_is _ blk cap i m en d X w q HH.out hs A1 B1 (by omega) hsz).mono ?_
                      rintro e w3 ⟨rfl, q3, rfl⟩
                      go_wp2_with fail
                      first | go_end0 | ((try simp only [Exit.inBlock, Exit.then]); refine bodyPost_ret (results_none rfl _ _ _) rfl ?_)
                      have e := RS.out
                      simp only [if_pos (And.intro A1 B1), if_neg (show ¬ (a < i ∧ i < mid) from fun h => C1 h.1), if_neg (show ¬ (mid < en ∧ en < b) from fun h => D1 h.2)] at e
                      exact ⟨rfl, q3, by rw [e]⟩
                · have Bz1 : ¬ (m : Int) < (en : Int) := by omega
                  have Bz2 : ¬ (i : Int) < (mid : Int) := by omega
                  have B2 : ¬ (i < mid) := by omega
                  by_cases C1 : a < i
                  · have Cz1 : (a : Int) < (i : Int) := by omega
                    by_cases D1 : en < b
                    · have Dz1 : (en : Int) < (b : Int) := by omega
                      go_wp2_with fail
                      have sz1 : (symM (ltF cf) f mid en b X).size = d.size := (symM_size _ _ _ _ _ _).trans hs
                      refine (IH.out mid en b X q hs (by omega) A2 D1 hb).mono ?_
                      rintro e w3 ⟨rfl, q3, rfl⟩
                      go_wp2_with fail
                      first | go_end0 | ((try simp only [Exit.inBlock, Exit.then]); refine bodyPost_ret (results_none rfl _ _ _) rfl ?_)
                      have e := RS.out
                      simp only [if_neg (show ¬ (i < m ∧ m < en) from fun h => B1 h.2), if_neg (show ¬ (a < i ∧ i < mid) from fun h => B2 h.2), if_pos (And.intro A2 D1)] at e
                      exact ⟨rfl, q3, by rw [e]⟩
                    · have Dz1 : ¬ (en : Int) < (b : Int) := by omega
                      go_wp2_with fail
                      first | go_end0 | ((try simp only [Exit.inBlock, Exit.then]); refine bodyPost_ret (results_none rfl _ _ _) rfl ?_)
                      have e := RS.out
                      simp only [if_neg (show ¬ (i < m ∧ m < en) from fun h => B1 h.2), if_neg (show ¬ (a < i ∧ i < mid) from fun h => B2 h.2), if_neg (show ¬ (mid < en ∧ en < b) from fun h => D1 h.2)] at e
                      exact ⟨rfl, q, by rw [e]⟩
                  · have Cz1 : ¬ (a : Int) < (i : Int) := by omega
                    by_cases D1 : en < b
                    · have Dz1 : (en : Int) < (b : Int) := by omega
                      go_wp2_with fail
                      have sz1 : (symM (ltF cf) f mid en b X).size = d.size := (symM_size _ _ _ _ _ _).trans hs
                      refine (IH.out mid en b X q hs (by omega) A2 D1 hb).mono ?_
                      rintro e w3 ⟨rfl, q3, rfl⟩
                      go_wp2_with fail
                      first | go_end0 | ((try simp only [Exit.inBlock, Exit.then]); refine bodyPost_ret (results_none rfl _ _ _) rfl ?_)
                      have e := RS.out
                      simp only [if_neg (show ¬ (i < m ∧ m < en) from fun h => B1 h.2), if_neg (show ¬ (a < i ∧ i < mid) from fun h => C1 h.1), if_pos (And.intro A2 D1)] at e
                      exact ⟨rfl, q3, by rw [e]⟩
                    · have Dz1 : ¬ (en : Int) < (b : Int) := by omega
                      go_wp2_with fail
                      first | go_end0 | ((try simp only [Exit.inBlock, Exit.then]); refine bodyPost_ret (results_none rfl _ _ _) rfl ?_)
                      have e := RS.out
                      simp only [if_neg (show ¬ (i < m ∧ m < en) from fun h => B1 h.2), if_neg (show ¬ (a < i ∧ i < mid) from fun h => C1 h.1), if_neg (show ¬ (mid < en ∧ en < b) from fun h => D1 h.2)] at e
                      exact ⟨rfl, q, by rw [e]⟩
              · have Az1 : ¬ (i : Int) < (m : Int) := by omega
                have Az2 : ¬ (mid : Int) < (en : Int) := by omega
                have A2 : ¬ (mid < en) := by omega
                by_cases B1 : m < en
                · have Bz1 : (m : Int) < (en : Int) := by omega
                  have Bz2 : (i : Int) < (mid : Int) := by omega
                  have B2 : (i < mid) := by omega
                  by_cases C1 : a < i
                  · have Cz1 : (a : Int) < (i : Int) := by omega
                    go_wp2_with fail
                    have sz1 : (symM (ltF cf) f a i mid X).size = d.size := (symM_size _ _ _ _ _ _).trans hs
                    refine (IH.out a i mid X q hs (by omega) C1 B2 (by omega)).mono ?_
                    rintro e w3 ⟨rfl, q3, rfl⟩
                    go_wp2_with fail
                    first | go_end0 | ((try simp only [Exit.inBlock, Exit.then]); refine bodyPost_ret (results_none rfl _ _ _) rfl ?_)
                    have e := RS.out
                    simp only [if_neg (show ¬ (i < m ∧ m < en) from fun h => A1 h.1), if_pos (And.intro C1 B2), if_neg (show ¬ (mid < en ∧ en < b) from fun h => A2 h.1)] at e
                    exact ⟨rfl, q3, by rw [e]⟩
                  · have Cz1 : ¬ (a : Int) < (i : Int) := by omega
                    go_wp2_with fail
                    first | go_end0 | ((try simp only [Exit.inBlock, Exit.then]); refine bodyPost_ret (results_none rfl _ _ _) rfl ?_)
                    have e := RS.out
                    simp only [if_neg (show ¬ (i < m ∧ m < en) from fun h => A1 h.1), if_neg (show ¬ (a < i ∧ i < mid) from fun h => C1 h.1), if_neg (show ¬ (mid < en ∧ en < b) from fun h => A2 h.1)] at e
                    exact ⟨rfl, q, by rw [e]⟩
                · have Bz1 : ¬ (m : Int) < (en : Int) := by omega
                  have Bz2 : ¬ (i : Int) < (mid : Int) := by omega
                  have B2 : ¬ (i < mid) := by omega
                  by_cases C1 : a < i
                  · have Cz1 : (a : Int) < (i : Int) := by omega
                    go_wp2_with fail
                    first | go_end0 | ((try simp only [Exit.inBlock, Exit.then]); refine bodyPost_ret (results_none rfl _ _ _) rfl ?_)
                    have e := RS.out
                    simp only [if_neg (show ¬ (i < m ∧ m < en) from fun h => A1 h.1), if_neg (show ¬ (a < i ∧ i < mid) from fun h => B2 h.2), if_neg (show ¬ (mid < en ∧ en < b) from fun h => A2 h.1)] at e
                    exact ⟨rfl, q, by rw [e]⟩
                  · have Cz1 : ¬ (a : Int) < (i : Int) := by omega
                    go_wp2_with fail
                    first | go_end0 | ((try simp only [Exit.inBlock, Exit.then]); refine bodyPost_ret (results_none rfl _ _ _) rfl ?_)
                    have e := RS.out
                    simp only [if_neg (show ¬ (i < m ∧ m < en) from fun h => A1 h.1), if_neg (show ¬ (a < i ∧ i < mid) from fun h => C1 h.1), if_neg (show ¬ (mid < en ∧ en < b) from fun h => A2 h.1)] at e
                    exact ⟨rfl, q, by rw [e]⟩
        · have cz : ¬ (mid : Int) < (m : Int) := by omega
          obtain ⟨g1, g2⟩ := b8 c
          have g3 : a = s0 := g1.symm
          have g4 : m = r0 := g2.symm
          subst g3
          subst g4
          clear g1 g2
          go_enter Try.func60, Try.ntmps60
          go_wp2
          clear b7 b8 z1 z2 z3 z4 emid enn epp
          go_loopg [20, 21] (m - a) (fun gg v10 v11 wr => ∃ (i j q : Nat), v10 = .int .i64 i ∧ v11 = .int .i64 j ∧ a ≤ i ∧ i ≤ j ∧ j ≤ m ∧ j - i ≤ gg ∧ wr = (putRow encF w blk 0 X).drewN q ∧ Aside0 (∀ f', j - i ≤ f' → srch (fun c => !ltF cf X[pp - c]! X[c]!) f' i j = R))
          case atStart => exact ⟨a, m, m0, rfl, rfl, Nat.le_refl _, b2, Nat.le_refl _, Nat.le_refl _, rfl, R0⟩
          case round =>
            obtain ⟨i, j, q, rfl, rfl, h1, h2, h3, hg, rfl, HI⟩ := hrel
            by_cases hlt : i < j
            · have hltz : (i : Int) < (j : Int) := by omega
              obtain ⟨h, hh⟩ : ∃ h, (i + j) / 2 = h := ⟨_, rfl⟩
              have eh : ((i : Int) + (j : Int)) / 2 = (h : Int) := by omega
              have hh1 : i ≤ h := by omega
              have hh2 : h < j := by omega
              have HHH := Aside0.mk hh
              obtain ⟨pc, hpc⟩ : ∃ pc, pp - h = pc := ⟨_, rfl⟩
              have hpcd : pc < d.size := by have := B5.out; omega
              have epc : IntKind.i64.wrap ((pp : Int) - (h : Int)) = (pc : Int) := by have := B5.out; rw [IntKind.wrap_i64]; omega
              obtain ⟨xp, hxp⟩ : ∃ x, X[pc]! = x := ⟨_, rfl⟩
              obtain ⟨xh, hxh⟩ : ∃ x, X[h]! = x := ⟨_, rfl⟩
              obtain ⟨cp, fp⟩ := row_cell w blk d X HH.out hs q h (by omega) xh hxh
              obtain ⟨cr, fr⟩ := row_cell w blk d X HH.out hs q pc hpcd xp hxp
              have hc := HC.out X xp xh hs (by omega) q
              have hz : (h : Int) < (d.size : Int) := by omega
              have az : (pc : Int) < (d.size : Int) := by omega
              have XH := Aside0.mk hxh
              have XP := Aside0.mk hxp
              have PC := Aside0.mk hpc
              have wh : IntKind.i64.wrap ((h : Int) + 1) = ((h + 1 : Nat) : Int) := by rw [IntKind.wrap_i64]; omega
              clear hxh hxp hh hpc fp fr
              obtain ⟨wq, hwq⟩ : ∃ wq, wq = (putRow encF w blk 0 X).drewN q := ⟨_, rfl⟩
              rw [← hwq] at cp cr hc ⊢
              have HWQ := Aside0.mk hwq
              clear hwq
              by_cases hlv : cf xp xh < 0
              · go_wp2_with fail
                go_quiet ((go_at_fn g; refine Calls.quiet_of (hc _)))
                go_wp2_with fail
                go_roundg (h - i)
                case measure => omega
                case rel => exact ⟨i, h, _, rfl, by first | rfl | go_num, by omega, by omega, by omega, Nat.le_refl _, by rw [HWQ.out, World.drewN_drewN], ⟨srch_go2 hlt HHH.out (by show (!ltF cf X[pp - h]! X[h]!) = false; rw [PC.out, XH.out, XP.out, ltF, decide_eq_true hlv]; rfl) HI.out⟩⟩
              · have hl2 : (!decide (cf xp xh < 0)) = true := by rw [decide_eq_false hlv]; rfl
                go_wp2_with fail
                go_quiet ((go_at_fn g; refine Calls.quiet_of (hc _)))
                go_wp2_with fail
                go_roundg (j - (h + 1))
                case measure => omega
                case rel => exact ⟨h + 1, j, _, by first | rfl | go_num, rfl, by omega, by omega, by omega, Nat.le_refl _, by rw [HWQ.out, World.drewN_drewN], ⟨srch_go1 hlt HHH.out (by show (!ltF cf X[pp - h]! X[h]!) = true; rw [PC.out, XH.out, XP.out, ltF, decide_eq_false (show ¬ cf xp xh < 0 by omega)]; rfl) HI.out⟩⟩
            · have hltz : ¬ (i : Int) < (j : Int) := by omega
              obtain rfl : i = R := srch_end hlt HI.out
              clear HI R0 B5 h1 h2 h3 hg hlt
              have enx : en + i = mid + m := by have := EN.out; omega
              by_cases A1 : i < m
              · have Az1 : (i : Int) < (m : Int) := by omega
                have Az2 : (mid : Int) < (en : Int) := by omega
                have A2 : (mid < en) := by omega
                by_cases B1 : m < en
                · have Bz1 : (m : Int) < (en : Int) := by omega
                  have Bz2 : (i : Int) < (mid : Int) := by omega
                  have B2 : (i < mid) := by omega
                  by_cases C1 : a < i
                  · have Cz1 : (a : Int) < (i : Int) := by omega
                    by_cases D1 : en < b
                    · have Dz1 : (en : Int) < (b : Int) := by omega
                      go_wp2_with fail
                      have sz1 : (rot m (en - i) (m - i) (en - m) X).size = d.size := (rot_size _ _ _ _ _).trans hs
                      refine (rotate_is _ blk cap i m en d X w q HH.out hs A1 B1 (by omega) hsz).mono ?_
                      rintro e w3 ⟨rfl, q3, rfl⟩
                      go_wp2_with fail
                      have sz2 : (symM (ltF cf) f a i mid (rot m (en - i) (m - i) (en - m) X)).size = d.size := (symM_size _ _ _ _ _ _).trans sz1
                      refine (IH.out a i mid (rot m (en - i) (m - i) (en - m) X) q3 sz1 (by omega) C1 B2 (by omega)).mono ?_
                      rintro e w4 ⟨rfl, q4, rfl⟩
                      go_wp2_with fail
                      have sz3 : (symM (ltF cf) f mid en b (symM (ltF cf) f a i mid (rot m (en - i) (m - i) (en - m) X))).size = d.size := (symM_size _ _ _ _ _ _).trans sz2
                      refine (IH.out mid en b (symM (ltF cf) f a i mid (rot m (en - i) (m - i) (en - m) X)) q4 sz2 (by omega) A2 D1 hb).mono ?_
                      rintro e w5 ⟨rfl, q5, rfl⟩
                      go_wp2_with fail
                      first | go_end0 | ((try simp only [Exit.inBlock, Exit.then]); refine bodyPost_ret (results_none rfl _ _ _) rfl ?_)
                      have e := RS.out
                      simp only [if_pos (And.intro A1 B1), if_pos (And.intro C1 B2), if_pos (And.intro A2 D1)] at e
                      exact ⟨rfl, q5, by rw [e]⟩
                    · have Dz1 : ¬ (en : Int) < (b : Int) := by omega
                      go_wp2_with fail
                      have sz1 : (rot m (en - i) (m - i) (en - m) X).size = d.size := (rot_size _ _ _ _ _).trans hs
                      refine (rotate_is _ blk cap i m en d X w q HH.out hs A1 B1 (by omega) hsz).mono ?_
                      rintro e w3 ⟨rfl, q3, rfl⟩
                      go_wp2_with fail
                      have sz2 : (symM (ltF cf) f a i mid (rot m (en - i) (m - i) (en - m) X)).size = d.size := (symM_size _ _ _ _ _ _).trans sz1
                      refine (IH.out a i mid (rot m (en - i) (m - i) (en - m) X) q3 sz1 (by omega) C1 B2 (by omega)).mono ?_
                      rintro e w4 ⟨rfl, q4, rfl⟩
                      go_wp2_with fail
                      first | go_end0 | ((try simp only [Exit.inBlock, Exit.then]); refine bodyPost_ret (results_none rfl _ _ _) rfl ?_)
                      have e := RS.out
                      simp only [if_pos (And.intro A1 B1), if_pos (And.intro C1 B2), if_neg (show ¬ (mid < en ∧ en < b) from fun h => D1 h.2)] at e
                      exact ⟨rfl, q4, by rw [e]⟩
                  · have Cz1 : ¬ (a : Int) < (i : Int) := by omega
                    by_cases D1 : en < b
                    · have Dz1 : (en : Int) < (b : Int) := by omega
                      go_wp2_with fail
                      have sz1 : (rot m (en - i) (m - i) (en - m) X).size = d.size := (rot_size _ _ _ _ _).trans hs
                      refine (rotate_is _ blk cap i m en d X w q HH.out hs A1 B1 (by omega) hsz).mono ?_
                      rintro e w3 ⟨rfl, q3, rfl⟩
                      go_wp2_with fail
                      have sz2 : (symM (ltF cf) f mid en b (rot m (en - i) (m - i) (en - m) X)).size = d.size := (symM_size _ _ _ _ _ _).trans sz1
                      refine (IH.out mid en b (rot m (en - i) (m - i) (en - m) X) q3 sz1 (by omega) A2 D1 hb).mono ?_
                      rintro e w4 ⟨rfl, q4, rfl⟩
                      go_wp2_with fail
                      first | go_end0 | ((try simp only [Exit.inBlock, Exit.then]); refine bodyPost_ret (results_none rfl _ _ _) rfl ?_)
                      have e := RS.out
                      simp only [if_pos (And.intro A1 B1), if_neg (show ¬ (a < i ∧ i < mid) from fun h => C1 h.1), if_pos (And.intro A2 D1)] at e
                      exact ⟨rfl, q4, by rw [e]⟩
                    · have Dz1 : ¬ (en : Int) < (b : Int) := by omega
                      go_wp2_with fail
                      have sz1 : (rot m (en - i) (m - i) (en - m) X).size = d.size := (rot_size _ _ _ _ _).trans hs
                      refine (rotate_is _ blk cap i m en d X w q HH.out hs A1 B1 (by omega) hsz).mono ?_
                      rintro e w3 ⟨rfl, q3, rfl⟩
                      go_wp2_with fail
                      first | go_end0 | ((try simp only [Exit.inBlock, Exit.then]); refine bodyPost_ret (results_none rfl _ _ _) rfl ?_)
                      have e := RS.out
                      simp only [if_pos (And.intro A1 B1), if_neg (show ¬ (a < i ∧ i < mid) from fun h => C1 h.1), if_neg (show ¬ (mid < en ∧ en < b) from fun h => D1 h.2)] at e
                      exact ⟨rfl, q3, by rw [e]⟩
                · have Bz1 : ¬ (m : Int) < (en : Int) := by omega
                  have Bz2 : ¬ (i : Int) < (mid : Int) := by omega
                  have B2 : ¬ (i < mid) := by omega
                  by_cases C1 : a < i
                  · have Cz1 : (a : Int) < (i : Int) := by omega
                    by_cases D1 : en < b
                    · have Dz1 : (en : Int) < (b : Int) := by omega
                      go_wp2_with fail
                      have sz1 : (symM (ltF cf) f mid en b X).size = d.size := (symM_size _ _ _ _ _ _).trans hs
                      refine (IH.out mid en b X q hs (by omega) A2 D1 hb).mono ?_
                      rintro e w3 ⟨rfl, q3, rfl⟩
                      go_wp2_with fail
                      first | go_end0 | ((try simp only [Exit.inBlock, Exit.then]); refine bodyPost_ret (results_none rfl _ _ _) rfl ?_)
                      have e := RS.out
                      simp only [if_neg (show ¬ (i < m ∧ m < en) from fun h => B1 h.2), if_neg (show ¬ (a < i ∧ i < mid) from fun h => B2 h.2), if_pos (And.intro A2 D1)] at e
                      exact ⟨rfl, q3, by rw [e]⟩
                    · have Dz1 : ¬ (en : Int) < (b : Int) := by omega
                      go_wp2_with fail
                      first | go_end0 | ((try simp only [Exit.inBlock, Exit.then]); refine bodyPost_ret (results_none rfl _ _ _) rfl ?_)
                      have e := RS.out
                      simp only [if_neg (show ¬ (i < m ∧ m < en) from fun h => B1 h.2), if_neg (show ¬ (a < i ∧ i < mid) from fun h => B2 h.2), if_neg (show ¬ (mid < en ∧ en < b) from fun h => D1 h.2)] at e
                      exact ⟨rfl, q, by rw [e]⟩
                  · have Cz1 : ¬ (a : Int) < (i : Int) := by omega
                    by_cases D1 : en < b
                    · have Dz1 : (en : Int) < (b : Int) := by omega
                      go_wp2_with fail
                      have sz1 : (symM (ltF cf) f mid en b X).size = d.size := (symM_size _ _ _ _ _ _).trans hs
                      refine (IH.out mid en b X q hs (by omega) A2 D1 hb).mono ?_
                      rintro e w3 ⟨rfl, q3, rfl⟩
                      go_wp2_with fail
                      first | go_end0 | ((try simp only [Exit.inBlock, Exit.then]); refine bodyPost_ret (results_none rfl _ _ _) rfl ?_)
                      have e := RS.out
                      simp only [if_neg (show ¬ (i < m ∧ m < en) from fun h => B1 h.2), if_neg (show ¬ (a < i ∧ i < mid) from fun h => C1 h.1), if_pos (And.intro A2 D1)] at e
                      exact ⟨rfl, q3, by rw [e]⟩
                    · have Dz1 : ¬ (en : Int) < (b : Int) := by omega
                      go_wp2_with fail
                      first | go_end0 | ((try simp only [Exit.inBlock, Exit.then]); refine bodyPost_ret (results_none rfl _ _ _) rfl ?_)
                      have e := RS.out
                      simp only [if_neg (show ¬ (i < m ∧ m < en) from fun h => B1 h.2), if_neg (show ¬ (a < i ∧ i < mid) from fun h => C1 h.1), if_neg (show ¬ (mid < en ∧ en < b) from fun h => D1 h.2)] at e
                      exact ⟨rfl, q, by rw [e]⟩
              · have Az1 : ¬ (i : Int) < (m : Int) := by omega
                have Az2 : ¬ (mid : Int) < (en : Int) := by omega
                have A2 : ¬ (mid < en) := by omega
                by_cases B1 : m < en
                · have Bz1 : (m : Int) < (en : Int) := by omega
                  have Bz2 : (i : Int) < (mid : Int) := by omega
                  have B2 : (i < mid) := by omega
                  by_cases C1 : a < i
                  · have Cz1 : (a : Int) < (i : Int) := by omega
                    go_wp2_with fail
                    have sz1 : (symM (ltF cf) f a i mid X).size = d.size := (symM_size _ _ _ _ _ _).trans hs
                    refine (IH.out a i mid X q hs (by omega) C1 B2 (by omega)).mono ?_
                    rintro e w3 ⟨rfl, q3, rfl⟩
                    go_wp2_with fail
                    first | go_end0 | ((try simp only [Exit.inBlock, Exit.then]); refine bodyPost_ret (results_none rfl _ _ _) rfl ?_)
                    have e := RS.out
                    simp only [if_neg (show ¬ (i < m ∧ m < en) from fun h => A1 h.1), if_pos (And.intro C1 B2), if_neg (show ¬ (mid < en ∧ en < b) from fun h => A2 h.1)] at e
                    exact ⟨rfl, q3, by rw [e]⟩
                  · have Cz1 : ¬ (a : Int) < (i : Int) := by omega
                    go_wp2_with fail
                    first | go_end0 | ((try simp only [Exit.inBlock, Exit.then]); refine bodyPost_ret (results_none rfl _ _ _) rfl ?_)
                    have e := RS.out
                    simp only [if_neg (show ¬ (i < m ∧ m < en) from fun h => A1 h.1), if_neg (show ¬ (a < i ∧ i < mid) from fun h => C1 h.1), if_neg (show ¬ (mid < en ∧ en < b) from fun h => A2 h.1)] at e
                    exact ⟨rfl, q, by rw [e]⟩
                · have Bz1 : ¬ (m : Int) < (en : Int) := by omega
                  have Bz2 : ¬ (i : Int) < (mid : Int) := by omega
                  have B2 : ¬ (i < mid) := by omega
                  by_cases C1 : a < i
                  · have Cz1 : (a : Int) < (i : Int) := by omega
                    go_wp2_with fail
                    first | go_end0 | ((try simp only [Exit.inBlock, Exit.then]); refine bodyPost_ret (results_none rfl _ _ _) rfl ?_)
                    have e := RS.out
                    simp only [if_neg (show ¬ (i < m ∧ m < en) from fun h => A1 h.1), if_neg (show ¬ (a < i ∧ i < mid) from fun h => B2 h.2), if_neg (show ¬ (mid < en ∧ en < b) from fun h => A2 h.1)] at e
                    exact ⟨rfl, q, by rw [e]⟩
                  · have Cz1 : ¬ (a : Int) < (i : Int) := by omega
                    go_wp2_with fail
                    first | go_end0 | ((try simp only [Exit.inBlock, Exit.then]); refine bodyPost_ret (results_none rfl _ _ _) rfl ?_)
                    have e := RS.out
                    simp only [if_neg (show ¬ (i < m ∧ m < en) from fun h => A1 h.1), if_neg (show ¬ (a < i ∧ i < mid) from fun h => C1 h.1), if_neg (show ¬ (mid < en ∧ en < b) from fun h => A2 h.1)] at e
                    exact ⟨rfl, q, by rw [e]⟩
end Go.Proofs.Ytlefddghiiigeaa.Q
