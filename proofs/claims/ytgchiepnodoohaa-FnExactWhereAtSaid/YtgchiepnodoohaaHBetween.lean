/- The closure of impl's WhereAt, and what WhereAt answers. -/
import Derived.Test.YtgchiepnodoohaaHEarliest
import Derived.Deep.MidRow
import Derived.BigRegion
set_option linter.unusedVariables false
set_option linter.unusedSimpArgs false
namespace Go.Proofs.Ytgchiepnodoohaa.Q
open Go.RowKit Go.Proofs.YtgchiepnodoohaaW.PrintWords Go.Proofs.YtgchiepnodoohaaW.PrintLast Go.Proofs.YtgchiepnodoohaaW.PrintMore
def selL (p : Nat → Bool) (n : Nat) : List Int := ((List.range n).filter p).map fun (k : Nat) => (k : Int)
theorem selL_succ (p : Nat → Bool) (n : Nat) : selL p (n + 1) = if p n = true then selL p n ++ [(n : Int)] else selL p n := by
  unfold selL
  rw [List.range_succ, List.filter_append]
  split
  · rename_i h; simp [h]
  · rename_i h; simp [h]
theorem selL_length (p : Nat → Bool) (n : Nat) : (selL p n).length ≤ n := by
  unfold selL
  rw [List.length_map]
  have := List.length_filter_le p (List.range n)
  simpa using this
/-- Whether p holds of an hour from lo to hi. -/
def someH (p : Nat → Bool) (lo hi : Int) : Bool := decide (0 ≤ firstH p (min hi 300 + 1 - max lo 0).toNat (max lo 0).toNat)
theorem fH_congr (p q : Nat → Bool) : ∀ (n k : Nat), (∀ h, k ≤ h → h < k + n → p h = q h) → firstH p n k = firstH q n k
  | 0, k, _ => rfl
  | n + 1, k, h => by
    rw [firstH, firstH, h k (Nat.le_refl _) (by omega), fH_congr p q n (k + 1) (fun h' h1 h2 => h h' (by omega) (by omega))]
theorem fH_iff (p : Nat → Bool) : ∀ (n k : Nat), 0 ≤ firstH p n k ↔ ∃ h, k ≤ h ∧ h < k + n ∧ p h = true
  | 0, k => by
    unfold firstH
    constructor
    · intro h; omega
    · rintro ⟨h, h1, h2, _⟩; omega
  | n + 1, k => by
    unfold firstH
    by_cases hp : p k = true
    · rw [if_pos hp]
      exact ⟨fun _ => ⟨k, Nat.le_refl _, by omega, hp⟩, fun _ => by omega⟩
    · rw [if_neg hp, fH_iff p n (k + 1)]
      constructor
      · rintro ⟨h, h1, h2, h3⟩
        exact ⟨h, by omega, by omega, h3⟩
      · rintro ⟨h, h1, h2, h3⟩
        rcases Nat.eq_or_lt_of_le h1 with e | e
        · subst e
          exact absurd h3 hp
        · exact ⟨h, by omega, by omega, h3⟩
theorem Two.grew_l {k : IntKind} {e : TypeId} {base : Nat} {w0 w w1 : World} {v v' v1 : Value} {xs ys : List Int} {y : Int} (HT : Two k e base w0 w v v' xs ys) (hown : w1.ownsRow base e 1 v1 (xs ++ [y]).length (nums k (xs ++ [y]))) (hB : Below base w0 w1) (hg : w.grownBy w1 v.ownBlock) (hat : v1.ownBlock = v.ownBlock ∨ ∃ b, v1.ownBlock = some b ∧ w.heap.size ≤ b) : Two k e base w0 w1 v1 v' (xs ++ [y]) ys := by
  refine ⟨hown, HT.r.kept hg ?_, ?_, hB, Nat.le_trans HT.size hg.size⟩
  · cases hv : v.ownBlock with
    | none => cases v'.ownBlock <;> simp
    | some j => exact .inr (HT.ne j hv)
  · intro j hj
    rcases hat with hat | ⟨b, hat, hb⟩
    · exact HT.ne j (by rw [← hat, hj])
    · intro h2
      have := (HT.r.lt j h2).2
      rw [hj] at hat
      injection hat with hat
      omega
theorem Two.grew_r {k : IntKind} {e : TypeId} {base : Nat} {w0 w w1 : World} {v v' v1 : Value} {xs ys : List Int} {y : Int} (HT : Two k e base w0 w v v' xs ys) (hown : w1.ownsRow base e 1 v1 (ys ++ [y]).length (nums k (ys ++ [y]))) (hB : Below base w0 w1) (hg : w.grownBy w1 v'.ownBlock) (hat : v1.ownBlock = v'.ownBlock ∨ ∃ b, v1.ownBlock = some b ∧ w.heap.size ≤ b) : Two k e base w0 w1 v v1 xs (ys ++ [y]) := by
  refine ⟨HT.l.kept hg ?_, hown, ?_, hB, Nat.le_trans HT.size hg.size⟩
  · cases hv : v.ownBlock with
    | none => simp
    | some j => exact .inr fun h2 => HT.ne j hv h2.symm
  · intro j hj h2
    rcases hat with hat | ⟨b, hat, hb⟩
    · exact HT.ne j hj (by rw [← hat, h2])
    · have := (HT.l.lt j hj).2
      rw [h2] at hat
      injection hat with hat
      omega
theorem Two.start (w : World) : Two .i64 2 w.heap.size w ((w.alloc (.cells #[] 2)).alloc (.cells #[] 2)) (.slice (some ⟨w.heap.size, 0, none⟩) 0 0) (.slice (some ⟨w.heap.size + 1, 0, none⟩) 0 0) [] [] := ⟨
    by
      have := (own_lit w w.heap.size 2 .i64 [] (by simp) (by simp)).alloc (.cells #[] 2)
      simpa [nums] using this,
    by
      have := own_lit (w.alloc (.cells #[] 2)) w.heap.size 2 .i64 [] (by simp) (by simp)
      simpa [nums] using this,
    fun j hj => by simp [Value.ownBlock] at hj ⊢; omega, ((Below.refl _ _).alloc (Nat.le_refl _) _).alloc (by simp) _, by simp; omega⟩
set_option maxHeartbeats 1000000 in
set_option maxRecDepth 100000 in
/-- The closure of WhereAt: whether a station is reached from hour lo to hour hi. -/
theorem between_is (g : Nat) (T : TypeId) (G : List Bool) (hG : G.length = 2408) (st : Nat) (hst : st < 8) (lo hi : Int) (hl0 : -1000 ≤ lo) (hl1 : lo ≤ 1000) (hh0 : -1000 ≤ hi) (hh1 : hi ≤ 1000) (w : World) (hr : RowAt w g T G) :
    Calls Try.prog 88 #[.int .i8 st, .int .i64 lo, .int .i64 hi, .pointer (some ⟨g, 0, none⟩)] w fun e w' => e = .returned (.bool (someH (fun h => G.getD (st * 301 + h) false) lo hi)) ∧ w = w' := by
  have HR := Aside0.mk hr
  clear hr
  obtain ⟨p, hp⟩ : ∃ p : Nat → Bool, p = fun h => G.getD (st * 301 + h) false := ⟨_, rfl⟩
  have HP : Aside0 (∀ h, G.getD (st * 301 + h) false = p h) := ⟨fun h => by rw [hp]⟩
  rw [← hp]
  clear hp
  obtain ⟨a, ha⟩ : ∃ a : Nat, a = (max lo 0).toNat := ⟨_, rfl⟩
  obtain ⟨M, hM⟩ : ∃ M : Int, M = min hi 300 := ⟨_, rfl⟩
  obtain ⟨n, hn⟩ : ∃ n : Nat, n = (M + 1 - max lo 0).toNat := ⟨_, rfl⟩
  have hmx : (if lo < 0 then 0 else lo) = (a : Int) := by rw [ha]; split <;> omega
  have hmn : (if 300 < hi then 300 else hi) = M := by rw [hM]; split <;> omega
  have hM3 : M ≤ 300 := by omega
  have hna : (n : Int) = 0 ∨ (n : Int) + a = M + 1 := by omega
  have hn0 : n = 0 → M < a := by omega
  obtain ⟨R, hR⟩ : ∃ R, R = someH p lo hi := ⟨_, rfl⟩
  have E : Aside0 (R = decide (0 ≤ firstH p n a)) := ⟨by rw [hR]; unfold someH; rw [hn, hM, ha]⟩
  rw [← hR]
  clear ha hM hn hR
  go_enter Try.func88, Try.ntmps88
  go_wp2
  go_loopg [8] n (fun gg v8 wr => ∃ (k j : Nat), k ≤ n ∧ n - k ≤ gg ∧ Aside0 (j = a + k) ∧ v8 = .int .i64 j ∧ Aside0 (firstH p (n - k) j = firstH p n a) ∧ wr = w)
  case atStart => exact ⟨0, a, by omega, by omega, ⟨rfl⟩, rfl, ⟨rfl⟩, rfl⟩
  case round =>
    obtain ⟨k, j, hk, hgg, HJ, rfl, HA, rfl⟩ := hrel
    have hj := HJ.out
    by_cases hlt : k < n
    · have hle : (j : Int) ≤ M := by omega
      have hk3 : j < 301 := by omega
      have hk3z : (j : Int) < 301 := by omega
      have hst8z : (st : Int) < 8 := by omega
      have hcell := HR.out.cell (st * 301 + j) (by omega)
      clear hj
      rw [HP.out j] at hcell
      have hd : firstH p (n - k) j = if p j = true then (j : Int) else firstH p (n - (k + 1)) (j + 1) := by
        rw [show n - k = (n - (k + 1)) + 1 by omega, firstH]
      cases hq : p j with
      | true =>
        rw [hq] at hcell hd
        have ER : Aside0 (R = true) := ⟨by
          have hz : firstH p n a = (j : Int) := by rw [← HA.out, hd, if_pos rfl]
          rw [E.out, hz]
          exact decide_eq_true (by omega)⟩
        clear hd hq
        go_wp2
        go_ret
        exact ⟨by rw [ER.out]; rfl, rfl⟩
      | false =>
        rw [hq] at hcell hd
        have HD2 : Aside0 (firstH p (n - (k + 1)) (j + 1) = firstH p n a) := ⟨by rw [← HA.out, hd, if_neg (by simp)]⟩
        clear hd hq
        go_wp2
        go_roundg (n - (k + 1))
        case measure => omega
        case rel => exact ⟨k + 1, j + 1, by omega, by omega, ⟨by rw [HJ.out]; rfl⟩, by go_num, HD2, rfl⟩
    · have hle : ¬ (j : Int) ≤ M := by omega
      clear hj
      have ER : Aside0 (R = false) := ⟨by
        have hz : firstH p n a = -1 := by rw [← HA.out, show n - k = 0 by omega]; rfl
        rw [E.out, hz]
        rfl⟩
      go_wp2
      go_ret
      exact ⟨by rw [ER.out]; rfl, rfl⟩
/-- Where one can be: at a station, from an hour of arrival on; the first one is where it was seen. -/
def tmB (t : Int) (l : List S82) (x0 x1 s h : Nat) : Bool := arrB t l x0 x1 s h || (decide (s = x0) && decide (h = x1))
def statB (t : Int) (l : List S82) (x0 x1 : Nat) (hour : Int) (s : Nat) : Bool := someH (tmB t l x0 x1 s) (hour - t) hour
def laneB (t : Int) (l : List S82) (x0 x1 : Nat) (hour : Int) (i : Nat) : Bool := decide (1 < (l.getD i z82).f3) && someH (tmB t l x0 x1 (l.getD i z82).f0.toNat) (hour - (l.getD i z82).f3 + 1 - t) (hour - 1)
def whereRes (s t : Int) (l : List S82) (a : S47) (hour : Int) : List Int × List Int × Int :=
  if codeB (netB s t l) (scanIn s a && inB hour 0 300) = 0 then (selL (statB t l a.f0.toNat a.f1.toNat hour) s.toNat, selL (laneB t l a.f0.toNat a.f1.toNat hour) l.length, 0) else ([], [], codeB (netB s t l) (scanIn s a && inB hour 0 300))
theorem someH_congr {p q : Nat → Bool} {lo hi : Int} (h : ∀ k, k < 301 → p k = q k) : someH p lo hi = someH q lo hi := by
  unfold someH
  rw [fH_congr p q _ _ (fun k h1 h2 => h k (by omega))]
theorem tm_of_row {t : Int} {l : List S82} {x0 x1 : Nat} {G : List Bool} (lG : G.length = 2408) (hl : ∀ x ∈ l, laneV x) (hG : ArrT t l x0 x1 G) (hx0 : x0 < 8) (hx1 : x1 < 301) (s h : Nat) (hs : s < 8) (hh : h < 301) : (G.set (x0 * 301 + x1) true).getD (s * 301 + h) false = tmB t l x0 x1 s h := by
  have e : ∀ b c : Bool, (b = true ↔ c = true) → b = c := by intro b c; cases b <;> cases c <;> simp
  apply e
  rw [set_true G _ _ (by omega)]
  unfold tmB
  rw [← arrB_eq hl hG hs hh]
  unfold gat
  simp only [Bool.or_eq_true, Bool.and_eq_true, decide_eq_true_eq]
  constructor
  · rintro (h1 | h1)
    · exact .inr (by omega)
    · exact .inl h1
  · rintro (h1 | h1)
    · exact .inr h1
    · exact .inl (by rw [h1.1, h1.2])
end Go.Proofs.Ytgchiepnodoohaa.Q
