/- spec's l07Hour, l07Scan, l07Along, l07Behind, l07Goes. -/
import Derived.Test.YticfecncdpdanaaMA
import Derived.Test.YticfecncdpdanaaHCanGo
set_option linter.unusedVariables false
set_option linter.unusedSimpArgs false
namespace Go.Proofs.Yticfecncdpdanaa.Q
open Go.RowKit Go.Proofs.YticfecncdpdanaaW.PrintWords Go.Proofs.YticfecncdpdanaaW.PrintLast Go.Proofs.YticfecncdpdanaaW.PrintMore
theorem l07Hour_is (n : Int) (w : World) : Calls Try.prog 38 #[.int .i64 n] w fun e w' => e = .returned (.bool (inB n 0 300)) ∧ w = w' := by
  go_enter Try.func38, Try.ntmps38
  go_wp2_with fail
  refine (l00In_is _ _ _ _ rfl _).mono ?_
  rintro e w' ⟨rfl, rfl⟩
  go_wp2
  go_ret
  exact ⟨rfl, rfl⟩
/-- Whether there can be such a scan. -/
def scanIn (s : Int) (x : S31) : Bool := inB x.f0 0 (s - 1) && inB x.f1 0 300
theorem l07Scan_at {B : Nat} {s t : Int} {l : List S44} {w : World} (h : NetAt B s t l w) (hok : okNet s t l = true) (a0 a1 : Int) (ha : okScan ⟨a0, a1⟩ = true) :
    Calls Try.prog 37 #[.pointer (some ⟨B, 0, none⟩), .agg #[.int .i8 a0, .int .i16 a1]] w fun e w' => e = .returned (.bool (scanIn s ⟨a0, a1⟩)) ∧ Below w.heap.size w w' := by
  have HN := Aside0.mk h
  have HO := Aside0.mk hok
  obtain ⟨o1, o2, o3, o4⟩ := okScan_iff.1 ha
  simp only at o1 o2 o3 o4
  clear h hok ha
  go_enter Try.func37, Try.ntmps37
  go_wp2_with fail
  refine (l07Station_at (HN.out.alloc _) HO.out a0).mono ?_
  rintro e w' ⟨rfl, rfl⟩
  cases h1 : inB a0 0 (s - 1) with
  | false =>
    have H1 := Aside0.mk h1
    clear h1
    go_wp2
    go_ret
    exact ⟨by unfold scanIn; rw [H1.out]; rfl, (Below.refl _ _).alloc (Nat.le_refl _) _⟩
  | true =>
    have H1 := Aside0.mk h1
    clear h1
    go_wp2_with fail
    refine (l07Hour_is _ _).mono ?_
    rintro e w' ⟨rfl, rfl⟩
    go_wp2
    go_ret
    exact ⟨by unfold scanIn; rw [H1.out]; rfl, (Below.refl _ _).alloc (Nat.le_refl _) _⟩
/-- What l07Along adds. -/
def Along (t m n : Int) (h off : Nat) (G G' : List Bool) : Prop := ∀ i, G'.getD i false = true ↔ G.getD i false = true ∨ ∃ k, goes t m n h k ∧ i = off + k
set_option maxHeartbeats 4000000 in
set_option maxRecDepth 100000 in
theorem l07Along_is {B : Nat} {s t : Int} {l : List S44} (f m n : Int) (g h gb : Nat) (G : List Bool) (hG : G.length = 2408) (T : TypeId) (w : World) (hn : NetAt B s t l w) (hb : RowAt w gb T G) (hBg : B ≠ gb)
    (hg8 : g < 8) (hh : h < 301) (ht0 : 0 ≤ t) (ht1 : t ≤ 40) (hm0 : 1 ≤ m) (hm1 : m ≤ 40) (hn0 : 0 ≤ n) (hn1 : n ≤ 40) :
    Calls Try.prog 72 #[.pointer (some ⟨B, 0, none⟩), .pointer (some ⟨gb, 0, none⟩), .agg #[.int .i8 f, .int .i8 (g : Int), .int .i16 m, .int .i16 n], .int .i64 (h : Int)] w fun e w' =>
      e = .returned (.tuple #[]) ∧ Below gb w w' ∧ ∃ G' : List Bool, G'.length = 2408 ∧ RowAt w' gb T G' ∧ Along t m n h (g * 301) G G' := by
  have HN := Aside0.mk hn
  have HB := Aside0.mk hb
  clear hn hb
  go_enter Try.func72, Try.ntmps72
  go_wp2
  have hgb := HB.out.lt
  have HB0 := Aside0.mk (HB.out.alloc (.cells #[.int .i8 f, .int .i8 (g : Int), .int .i16 m, .int .i16 n] 44))
  have hB0 : Aside0 (Below gb w (w.alloc (.cells #[.int .i8 f, .int .i8 (g : Int), .int .i16 m, .int .i16 n] 44))) := ⟨(Below.refl _ _).alloc (by omega) _⟩
  have c1 : Aside0 ((w.alloc (.cells #[.int .i8 f, .int .i8 (g : Int), .int .i16 m, .int .i16 n] 44)).cell? ⟨w.heap.size, 1, none⟩ = some (.int .i8 (g : Int))) := ⟨by go_simp⟩
  have c3 : Aside0 ((w.alloc (.cells #[.int .i8 f, .int .i8 (g : Int), .int .i16 m, .int .i16 n] 44)).cell? ⟨w.heap.size, 3, none⟩ = some (.int .i16 n)) := ⟨by go_simp⟩
  obtain ⟨hBw, A', c', hc', q0, q1, q2, hr'⟩ := (HN.out.alloc (.cells #[.int .i8 f, .int .i8 (g : Int), .int .i16 m, .int .i16 n] 44)).out
  have Q1 := Aside0.mk q1
  clear q0 q1 q2 hr' hc'
  have hne : w.heap.size ≠ gb := by omega
  generalize w.alloc (.cells #[.int .i8 f, .int .i8 (g : Int), .int .i16 m, .int .i16 n] 44) = W at *
  have hgz : (g : Int) < 8 := by omega
  go_loopg [8] 81 (fun gg v8 wr => ∃ (x : Nat) (G2 : List Bool), m ≤ x ∧ x ≤ 81 ∧ 81 - x ≤ gg ∧ v8 = .int .i64 x ∧ G2.length = 2408 ∧ Aside0 (RowAt wr gb T G2) ∧ Aside0 (Only gb W wr) ∧ Aside0 (∀ i, G2.getD i false = true ↔ G.getD i false = true ∨ ∃ k, k < h + x ∧ goes t m n h k ∧ i = g * 301 + k))
  case atStart =>
    refine ⟨m.toNat, G, by omega, by omega, by omega, ?_, hG, HB0, ⟨Only.refl _ _⟩, ⟨fun i => ⟨Or.inl, fun h => h.elim id (fun ⟨k, h1, h2, _⟩ => ?_)⟩⟩⟩
    · congr 1
      omega
    · unfold goes at h2
      omega
  case round =>
    obtain ⟨x, G2, hx0, hx1, hg2, rfl, hG2, HR2, HO2, HI2⟩ := hrel
    have e1 := (HO2.out.cell w.heap.size 1 hne).trans c1.out
    have e3 := (HO2.out.cell w.heap.size 3 hne).trans c3.out
    have e4 := (HO2.out.cell B 1 hBg).trans Q1.out
    by_cases hin : (x : Int) ≤ n + t
    · by_cases hin2 : (h : Int) + x ≤ 300
      · have hc := HR2.out.cell (g * 301 + (h + x)) (by omega)
        have hfz := HR2.out.frozen (g * 301 + (h + x))
        have HI3 : Aside0 (∀ i, (G2.set (g * 301 + (h + x)) true).getD i false = true ↔ G.getD i false = true ∨ ∃ k, k < h + (x + 1) ∧ goes t m n h k ∧ i = g * 301 + k) := ⟨fun i => by
          rw [set_true G2 (g * 301 + (h + x)) i (by omega), HI2.out i]
          constructor
          · rintro (h1 | h1 | ⟨k, h1, h2, h3⟩)
            · exact .inr ⟨h + x, by omega, ⟨by omega, by omega, by omega⟩, h1⟩
            · exact .inl h1
            · exact .inr ⟨k, by omega, h2, h3⟩
          · rintro (h1 | ⟨k, h1, h2, h3⟩)
            · exact .inr (.inl h1)
            · rcases Nat.lt_succ_iff_lt_or_eq.1 (show k < (h + x) + 1 by omega) with h1 | rfl
              · exact .inr (.inr ⟨k, h1, h2, h3⟩)
              · exact .inl h3⟩
        have hw1 : IntKind.i64.wrap (n + t) = n + t := IntWalk.i64_in _ (by omega)
        have hw2 : IntKind.i64.wrap ((h : Int) + x) = h + x := IntWalk.i64_in _ (by omega)
        go_wp2
        go_quiet (fail)
        go_wp2
        go_region
        have n1 := Aside0.mk ((HR2.out.drewN (nq + 1)).set (g * 301 + (h + x)) true)
        have n2 := Aside0.mk ((HO2.out.drewN (nq + 1)).setCell (g * 301 + (h + x)) (.bool true))
        clear hw1 hw2 hc hfz
        go_wp2
        go_roundg (81 - (x + 1))
        case measure => omega
        case rel => exact ⟨x + 1, G2.set (g * 301 + (h + x)) true, by omega, by omega, by omega, by go_num, by rw [List.length_set]; exact hG2, n1, n2, HI3⟩
      · have hin3 : (300 : Int) < h + x := by omega
        have HI3 : Aside0 (Along t m n h (g * 301) G G2) := ⟨fun i => by
          rw [HI2.out i]
          constructor
          · rintro (h1 | ⟨k, h1, h2, h3⟩)
            · exact .inl h1
            · exact .inr ⟨k, h2, h3⟩
          · rintro (h1 | ⟨k, h2, h3⟩)
            · exact .inl h1
            · refine .inr ⟨k, ?_, h2, h3⟩
              unfold goes at h2
              omega⟩
        have hw1 : IntKind.i64.wrap (n + t) = n + t := IntWalk.i64_in _ (by omega)
        have hw2 : IntKind.i64.wrap ((h : Int) + x) = h + x := IntWalk.i64_in _ (by omega)
        go_wp2
        go_quiet (fail)
        go_wp2
        go_end0
        exact ⟨rfl, hB0.out.trans ((HO2.out.drewN _).below (Nat.le_refl gb)), G2, hG2, HR2.out.drewN _, HI3.out⟩
    · have hin3 : n + t < (x : Int) := by omega
      have HI3 : Aside0 (Along t m n h (g * 301) G G2) := ⟨fun i => by
        rw [HI2.out i]
        constructor
        · rintro (h1 | ⟨k, h1, h2, h3⟩)
          · exact .inl h1
          · exact .inr ⟨k, h2, h3⟩
        · rintro (h1 | ⟨k, h2, h3⟩)
          · exact .inl h1
          · refine .inr ⟨k, ?_, h2, h3⟩
            unfold goes at h2
            omega⟩
      have hd : decide ((x : Int) ≤ n + t) = false := decide_eq_false (by omega)
      have hw1 : IntKind.i64.wrap (n + t) = n + t := IntWalk.i64_in _ (by omega)
      go_wp2
      go_quiet (fail)
      go_wp2
      go_end0
      exact ⟨rfl, hB0.out.trans ((HO2.out.drewN _).below (Nat.le_refl gb)), G2, hG2, HR2.out.drewN _, HI3.out⟩
end Go.Proofs.Yticfecncdpdanaa.Q
/- That processing hour by hour, lane by lane, finds all arrivals. -/
set_option linter.unusedVariables false
namespace Go.Proofs.Yticfecncdpdanaa.Q
theorem Arr.gt {t : Int} {l : List S44} {a0 h0 s h : Nat} (hl : ∀ x ∈ l, laneV x) (h1 : Arr t l a0 h0 s h) : h0 < h ∧ s < 8 ∧ h < 301 := by
  induction h1 with
  | first x hx k hf hg =>
    have hv := hl x hx
    obtain ⟨v0, v1, v2, v3, v4, _⟩ := hv
    unfold goes at hg
    omega
  | more x hx k k' hp hg ih =>
    have hv := hl x hx
    obtain ⟨v0, v1, v2, v3, v4, _⟩ := hv
    unfold goes at hg
    omega
def Src (t : Int) (L : List S44) (a0 h0 s h : Nat) : Prop := (s = a0 ∧ h = h0) ∨ Arr t L a0 h0 s h
/-- Ahead of hour H's lanes, but for those in pre. -/
structure Sent (t : Int) (L : List S44) (a0 h0 H : Nat) (pre : List S44) (G : List Bool) : Prop where
  out : ∀ s k, s < 8 → k < 301 → (gat G s k = true ↔ (∃ x ∈ L, ∃ h, h < H ∧ Src t L a0 h0 x.f0.toNat h ∧ goes t x.f2 x.f3 h k ∧ x.f1 = (s : Int)) ∨ (∃ x ∈ pre, Src t L a0 h0 x.f0.toNat H ∧ goes t x.f2 x.f3 H k ∧ x.f1 = (s : Int)))
variable {t : Int} {L : List S44} {a0 h0 : Nat}
theorem Src.ge {s h : Nat} (hl : ∀ x ∈ L, laneV x) (h1 : Src t L a0 h0 s h) : h0 ≤ h := by
  rcases h1 with ⟨_, h1⟩ | h1
  · omega
  · have := (h1.gt hl).1
    omega
theorem Sent.start (hl : ∀ x ∈ L, laneV x) : Sent t L a0 h0 h0 [] noTimes := ⟨fun s k hs hk => by
  unfold gat
  rw [noTimes_get]
  constructor
  · intro h
    cases h
  · rintro (⟨x, hx, h, h1, h2, _⟩ | ⟨x, hx, _⟩)
    · have := h2.ge hl
      omega
    · cases hx⟩
theorem Sent.arr {H : Nat} {pre : List S44} {G : List Bool} (hl : ∀ x ∈ L, laneV x) (hp : ∀ x ∈ pre, x ∈ L) (h : Sent t L a0 h0 H pre G) {s k : Nat} (hs : s < 8) (hk : k < 301) (hH : k ≤ H) : gat G s k = true ↔ Arr t L a0 h0 s k := by
  rw [h.out s k hs hk]
  constructor
  · rintro (⟨x, hx, j, h1, h2, h3, h4⟩ | ⟨x, hx, h2, h3, h4⟩)
    · have hv := hl x hx
      obtain ⟨v0, v1, v2, v3, v4, _⟩ := hv
      exact Arr.step hx (hl x hx) h2 (by omega) h3 h4
    · have hv := hl x (hp x hx)
      obtain ⟨v0, v1, v2, v3, v4, _⟩ := hv
      exact Arr.step (hp x hx) (hl x (hp x hx)) h2 (by omega) h3 h4
  · intro h1
    left
    cases h1 with
    | first x hx k hf hg =>
      have hv := hl x hx
      obtain ⟨v0, v1, v2, v3, v4, _⟩ := hv
      refine ⟨x, hx, h0, ?_, .inl ⟨hf, rfl⟩, hg, by omega⟩
      unfold goes at hg
      omega
    | more x hx j k hp hg =>
      have hv := hl x hx
      obtain ⟨v0, v1, v2, v3, v4, _⟩ := hv
      refine ⟨x, hx, j, ?_, .inr hp, hg, by omega⟩
      unfold goes at hg
      omega
theorem Sent.skip {H : Nat} {pre : List S44} {G : List Bool} (h : Sent t L a0 h0 H pre G) (x : S44) (hx : ¬ Src t L a0 h0 x.f0.toNat H) : Sent t L a0 h0 H (pre ++ [x]) G := ⟨fun s k hs hk => by
  rw [h.out s k hs hk]
  constructor
  · rintro (h1 | ⟨y, hy, h1⟩)
    · exact .inl h1
    · exact .inr ⟨y, List.mem_append_left _ hy, h1⟩
  · rintro (h1 | ⟨y, hy, h1⟩)
    · exact .inl h1
    · rcases List.mem_append.1 hy with hy | hy
      · exact .inr ⟨y, hy, h1⟩
      · obtain rfl := List.mem_singleton.1 hy
        exact absurd h1.1 hx⟩
theorem Sent.add {H : Nat} {pre : List S44} {G G' : List Bool} (h : Sent t L a0 h0 H pre G) (x : S44) (g : Nat) (hg : x.f1 = (g : Int)) (hx : Src t L a0 h0 x.f0.toNat H) (ha : Along t x.f2 x.f3 H (g * 301) G G') : Sent t L a0 h0 H (pre ++ [x]) G' := ⟨fun s k hs hk => by
  have h1 := ha (s * 301 + k)
  have h2 := h.out s k hs hk
  unfold gat at h2 ⊢
  rw [h1, h2]
  constructor
  · rintro ((h3 | ⟨y, hy, h3⟩) | ⟨k', hgo, he⟩)
    · exact .inl h3
    · exact .inr ⟨y, List.mem_append_left _ hy, h3⟩
    · have := goes_le hgo
      have e1 : g = s := by omega
      have e2 : k' = k := by omega
      subst e1 e2
      exact .inr ⟨x, List.mem_append_right _ List.mem_cons_self, hx, hgo, hg⟩
  · rintro (h3 | ⟨y, hy, h3, h4, h5⟩)
    · exact .inl (.inl h3)
    · rcases List.mem_append.1 hy with hy | hy
      · exact .inl (.inr ⟨y, hy, h3, h4, h5⟩)
      · obtain rfl := List.mem_singleton.1 hy
        exact .inr ⟨k, h4, by omega⟩⟩
theorem Sent.next {H : Nat} {G : List Bool} (h : Sent t L a0 h0 H L G) : Sent t L a0 h0 (H + 1) [] G := ⟨fun s k hs hk => by
  rw [h.out s k hs hk]
  constructor
  · rintro (⟨x, hx, j, h1, h2⟩ | ⟨x, hx, h2⟩)
    · exact .inl ⟨x, hx, j, by omega, h2⟩
    · exact .inl ⟨x, hx, H, by omega, h2⟩
  · rintro (⟨x, hx, j, h1, h2⟩ | ⟨x, hx, _⟩)
    · rcases Nat.lt_succ_iff_lt_or_eq.1 h1 with h1 | rfl
      · exact .inl ⟨x, hx, j, h1, h2⟩
      · exact .inr ⟨x, hx, h2⟩
    · cases hx⟩
theorem Sent.done {G : List Bool} (hl : ∀ x ∈ L, laneV x) (h : Sent t L a0 h0 301 [] G) : ArrT t L a0 h0 G := fun s k hs hk => h.arr hl (fun x hx => by cases hx) hs hk (by omega)
/-- Lanes that are not of a station. -/
def but (wo : Int) (l : List S44) : List S44 := l.filter fun x => x.f0 != wo && x.f1 != wo
theorem but_mem {wo : Int} {l : List S44} {x : S44} (h : x ∈ but wo l) : x ∈ l := (List.mem_filter.1 h).1
theorem but_snoc (wo : Int) (l : List S44) (x : S44) : but wo (l ++ [x]) = if (x.f0 != wo && x.f1 != wo) = true then but wo l ++ [x] else but wo l := by
  unfold but
  rw [List.filter_append, List.filter_cons]
  split <;> simp
theorem but_none {l : List S44} (hl : ∀ x ∈ l, laneV x) : but (-1) l = l := by
  unfold but
  rw [List.filter_eq_self]
  intro x hx
  have hv := hl x hx
  obtain ⟨v0, v1, v2, v3, v4, _⟩ := hv
  simp
  omega
end Go.Proofs.Yticfecncdpdanaa.Q
/- spec's l07Behind, l07Goes. -/
set_option linter.unusedVariables false
set_option linter.unusedSimpArgs false
namespace Go.Proofs.Yticfecncdpdanaa.Q
open Go.RowKit Go.Proofs.YticfecncdpdanaaW.PrintWords Go.Proofs.YticfecncdpdanaaW.PrintLast Go.Proofs.YticfecncdpdanaaW.PrintMore
theorem zcS : Try.zeroCells109 = bcells noTimes := by unfold noTimes; rw [bcells_def]; kernel_rfl
theorem below_drewN {b : Nat} {w w1 : World} (h : Below b w w1) (n : Nat) : Below b w (w1.drewN n) := ⟨h.os, h.tape, h.output, h.size, h.block⟩
theorem sent_no {t : Int} {L p : List S44} {a0 h0 H : Nat} {wo : Int} {G : List Bool} (h : Sent t L a0 h0 H (but wo p) G) (x : S44) (hx : ¬ Src t L a0 h0 x.f0.toNat H) : Sent t L a0 h0 H (but wo (p ++ [x])) G := by
  rw [but_snoc]
  split
  · exact h.skip x hx
  · exact h
theorem sent_out {t : Int} {L p : List S44} {a0 h0 H : Nat} {wo : Int} {G : List Bool} (h : Sent t L a0 h0 H (but wo p) G) (x : S44) (hx : x.f0 = wo ∨ x.f1 = wo) : Sent t L a0 h0 H (but wo (p ++ [x])) G := by
  rw [but_snoc, if_neg]
  · exact h
  · rcases hx with hx | hx <;> simp [hx]
theorem sent_go {t : Int} {L p : List S44} {a0 h0 H : Nat} {wo : Int} {G G' : List Bool} (h : Sent t L a0 h0 H (but wo p) G) (x : S44) (g : Nat) (hg : x.f1 = (g : Int)) (h0' : x.f0 ≠ wo) (h1' : x.f1 ≠ wo) (hx : Src t L a0 h0 x.f0.toNat H) (ha : Along t x.f2 x.f3 H (g * 301) G G') : Sent t L a0 h0 H (but wo (p ++ [x])) G' := by
  rw [but_snoc, if_pos (by simp [h0', h1'])]
  exact h.add x g hg hx ha
attribute [local go_sem] zcS
set_option maxHeartbeats 8000000 in
set_option maxRecDepth 100000 in
theorem l07Behind_is {B : Nat} {s t : Int} {l : List S44} (a0 h0 : Nat) (wo : Int) (w : World) (hn : NetAt B s t l w) (hl : ∀ x ∈ l, laneV x) (hlen : l.length ≤ 20) (ht0 : 0 ≤ t) (ht1 : t ≤ 40) (ha : a0 < 8) (hh : h0 < 301) (hw0 : -1 ≤ wo) (hw1 : wo ≤ 8) :
    Calls Try.prog 39 #[.pointer (some ⟨B, 0, none⟩), .agg #[.int .i8 (a0 : Int), .int .i16 (h0 : Int)], .int .i64 wo] w fun e w' =>
      ∃ (gb : Nat), w.heap.size ≤ gb ∧ ∃ (G : List Bool), G.length = 2408 ∧ RowAt w' gb 109 G ∧ ArrT t (but wo l) a0 h0 G ∧ e = .returned (.pointer (some ⟨gb, 0, none⟩)) ∧ Below w.heap.size w w' := by
  have HN := Aside0.mk hn
  have HL := Aside0.mk hl
  have HLB : Aside0 (∀ x ∈ but wo l, laneV x) := ⟨fun x hx => hl x (but_mem hx)⟩
  have hBw := hn.out.1
  clear hn hl
  go_enter Try.func39, Try.ntmps39
  go_wp2
  have R0 : Aside0 (RowAt ((w.alloc (.cells #[.int .i8 (a0 : Int), .int .i16 (h0 : Int)] 31)).alloc (.cells (bcells noTimes) 109)) (w.heap.size + 1) 109 noTimes) := ⟨RowAt.new _ _ (by simp) _ _⟩
  have hB0 : Aside0 (Below w.heap.size w ((w.alloc (.cells #[.int .i8 (a0 : Int), .int .i16 (h0 : Int)] 31)).alloc (.cells (bcells noTimes) 109))) := ⟨((Below.refl _ _).alloc (Nat.le_refl _) _).alloc (by simp) _⟩
  have c0 : Aside0 (((w.alloc (.cells #[.int .i8 (a0 : Int), .int .i16 (h0 : Int)] 31)).alloc (.cells (bcells noTimes) 109)).cell? ⟨w.heap.size, 0, none⟩ = some (.int .i8 (a0 : Int))) := ⟨by go_simp⟩
  have c1 : Aside0 (((w.alloc (.cells #[.int .i8 (a0 : Int), .int .i16 (h0 : Int)] 31)).alloc (.cells (bcells noTimes) 109)).cell? ⟨w.heap.size, 1, none⟩ = some (.int .i16 (h0 : Int))) := ⟨by go_simp⟩
  have hWz : w.heap.size + 1 + 1 ≤ ((w.alloc (.cells #[.int .i8 (a0 : Int), .int .i16 (h0 : Int)] 31)).alloc (.cells (bcells noTimes) 109)).heap.size := by simp
  generalize ((w.alloc (.cells #[.int .i8 (a0 : Int), .int .i16 (h0 : Int)] 31)).alloc (.cells (bcells noTimes) 109)) = W at *
  go_loopg [8] 301 (fun gg v8 wr => ∃ (HH : Nat) (G : List Bool), h0 ≤ HH ∧ HH ≤ 301 ∧ 301 - HH ≤ gg ∧ v8 = .int .i64 HH ∧ G.length = 2408 ∧ Aside0 (RowAt wr (w.heap.size + 1) 109 G) ∧ Aside0 (Below (w.heap.size + 1) W wr) ∧ Aside0 (Sent t (but wo l) a0 h0 HH [] G))
  case atStart => exact ⟨h0, noTimes, by omega, by omega, by omega, rfl, noTimes_length, R0, ⟨Below.refl _ _⟩, ⟨Sent.start HLB.out⟩⟩
  case round =>
    obtain ⟨HH, G, hh0, hh1, hg, rfl, hG, HR, BW, HS⟩ := hrel
    by_cases hlt : (HH : Int) ≤ 300
    · go_wp2
      obtain ⟨wo1, hwo1⟩ : ∃ wo1 : World, wo1 = wr := ⟨_, rfl⟩
      subst hwo1
      go_loopg [9] l.length (fun gg v9 wq => ∃ (kk : Nat) (G2 : List Bool), kk ≤ l.length ∧ l.length - kk ≤ gg ∧ v9 = .int .i64 kk ∧ G2.length = 2408 ∧ Aside0 (RowAt wq (w.heap.size + 1) 109 G2) ∧ Aside0 (Below (w.heap.size + 1) W wq) ∧ Aside0 (Sent t (but wo l) a0 h0 HH (but wo (l.take kk)) G2))
      case atStart => exact ⟨0, G, by omega, by omega, rfl, hG, HR, BW, ⟨HS.out⟩⟩
      case round =>
        obtain ⟨kk, G2, hkk, hg2, rfl, hG2, HR2, BW2, HS2⟩ := hrel
        have BW0 : Aside0 (Below w.heap.size w wr) := ⟨hB0.out.trans (BW2.out.mono (by omega))⟩
        have HN2 := Aside0.mk (HN.out.below BW0.out)
        have hwr := BW2.out.size
        have hltw : w.heap.size < wr.heap.size := by omega
        have hltw1 : w.heap.size + 1 < wr.heap.size := by omega
        obtain ⟨hBr, A', c', hc', q0, q1, q2, hr'⟩ := HN2.out.out
        have HRr := Aside0.mk hr'
        have d0 := (BW2.out.cell (p := ⟨w.heap.size, 0, none⟩) (by simp)).trans c0.out
        have d1 := (BW2.out.cell (p := ⟨w.heap.size, 1, none⟩) (by simp)).trans c1.out
        clear hr'
        have hsub : ∀ x ∈ but wo (l.take kk), x ∈ but wo l := fun x hx => by
          unfold but at hx ⊢
          rw [List.mem_filter] at hx ⊢
          exact ⟨List.mem_of_mem_take hx.1, hx.2⟩
        by_cases hlt2 : kk < l.length
        · have hltz : (kk : Int) < (l.length : Int) := by omega
          obtain ⟨ad, e, hx0, hx1, hx2, hx3⟩ := at_T44 HRr.out (kk : Int) (by omega) hltz
          have hy := HL.out (l.getD kk z44) (by rw [List.getD_eq_getElem?_getD, List.getElem?_eq_getElem hlt2]; exact List.getElem_mem hlt2)
          have htk := take_snoc' l z44 kk hlt2
          simp only [rd_T44, Int.toNat_natCast] at hx0 hx1 hx2 hx3
          subst e
          generalize l.getD kk z44 = y at hx0 hx1 hx2 hx3 hy htk
          have HTK := Aside0.mk htk
          obtain ⟨f, g, m, n⟩ := y
          obtain ⟨f1, f2, g1, g2, m1, m2, n1, n2⟩ := hy
          simp only at f1 f2 g1 g2 m1 m2 n1 n2 hx0 hx1 hx2 hx3
          obtain ⟨f, rfl⟩ := Int.eq_ofNat_of_zero_le f1
          obtain ⟨g, rfl⟩ := Int.eq_ofNat_of_zero_le g1
          have hHz : (HH : Int) < 301 := by omega
          clear htk
          by_cases hb1 : HH = h0
          · by_cases hb2 : f = a0
            · have hsrc : Src t (but wo l) a0 h0 f HH := .inl ⟨hb2, hb1⟩
              subst hb1 hb2
              by_cases hf1 : (f : Int) = wo
              · have hd1 : ((f : Int) != wo) = false := by simp [hf1]
                have hs3 := sent_out HS2.out ⟨(f : Int), (g : Int), m, n⟩ (.inl hf1)
                clear hf1
                have HS3 : Aside0 (Sent t (but wo l) f HH HH (but wo (l.take (kk + 1))) G2) := ⟨by rw [HTK.out]; exact hs3⟩
                clear hs3 hsub
                go_wp2
                go_big_quiet (fail)
                go_wp2
                go_roundg (l.length - (kk + 1))
                case measure => omega
                case rel => exact ⟨kk + 1, G2, by omega, by omega, by go_num, hG2, ⟨(HR2.out.alloc _).drewN _⟩, ⟨below_drewN (BW2.out.alloc (by omega) _) _⟩, HS3⟩
              · have hd1 : ((f : Int) != wo) = true := by simp [hf1]
                by_cases hf2 : (g : Int) = wo
                · have hd2 : ((g : Int) != wo) = false := by simp [hf2]
                  have hs3 := sent_out HS2.out ⟨(f : Int), (g : Int), m, n⟩ (.inr hf2)
                  clear hf2
                  have HS3 : Aside0 (Sent t (but wo l) f HH HH (but wo (l.take (kk + 1))) G2) := ⟨by rw [HTK.out]; exact hs3⟩
                  clear hs3 hsub
                  go_wp2
                  go_big_quiet (fail)
                  go_wp2
                  go_roundg (l.length - (kk + 1))
                  case measure => omega
                  case rel => exact ⟨kk + 1, G2, by omega, by omega, by go_num, hG2, ⟨(HR2.out.alloc _).drewN _⟩, ⟨below_drewN (BW2.out.alloc (by omega) _) _⟩, HS3⟩
                · have hd2 : ((g : Int) != wo) = true := by simp [hf2]
                  have HSRC := Aside0.mk hsrc
                  have HF1 := Aside0.mk hf1
                  have HF2 := Aside0.mk hf2
                  clear hf1 hf2
                  clear hsrc hsub
                  go_wp2
                  go_big_quiet (fail)
                  go_wp2_with fail
                  have HN3 := Aside0.mk (HN2.out.alloc (.cells #[.int .i8 (f : Int), .int .i8 (g : Int), .int .i16 m, .int .i16 n] 44))
                  refine (l07Along_is (B := B) (s := s) (t := t) (l := l) f m n g HH (w.heap.size + 1) G2 hG2 _ _ (HN3.out.below (below_drewN (Below.refl _ _) _)) ((HR2.out.alloc _).drewN _) (by omega) (by omega) (by omega) ht0 ht1 m1 m2 n1 n2).mono ?_
                  rintro e w3 ⟨rfl, hb3, G3, hG3, hR3, hal⟩
                  have HR3 := Aside0.mk hR3
                  have BW3 : Aside0 (Below (w.heap.size + 1) W w3) := ⟨(below_drewN (BW2.out.alloc (by omega) _) _).trans hb3⟩
                  have HS3 : Aside0 (Sent t (but wo l) f HH HH (but wo (l.take (kk + 1))) G3) := ⟨by rw [HTK.out]; exact sent_go HS2.out ⟨(f : Int), (g : Int), m, n⟩ g rfl HF1.out HF2.out HSRC.out hal⟩
                  clear hb3 hR3 hal
                  go_wp2
                  go_roundg (l.length - (kk + 1))
                  case measure => omega
                  case rel => exact ⟨kk + 1, G3, by omega, by omega, by go_num, hG3, HR3, BW3, HS3⟩
            · have hb2z : ((f : Int) == (a0 : Int)) = false := beq_false_of_ne (by omega)
              subst hb1
              have hc := HR2.out.cell (f * 301 + HH) (by omega)
              cases hq : G2.getD (f * 301 + HH) false with
              | false =>
                rw [hq] at hc
                have hs3 := sent_no HS2.out ⟨(f : Int), (g : Int), m, n⟩ (fun h => h.elim (fun h => hb2 h.1) (fun (h : Arr t (but wo l) a0 HH f HH) => by have := (HS2.out.arr HLB.out (fun x hx => hsub x hx) (by omega) (by omega) (Nat.le_refl _)).2 h; unfold gat at this; rw [hq] at this; cases this))
                clear hq
                have HS3 : Aside0 (Sent t (but wo l) a0 HH HH (but wo (l.take (kk + 1))) G2) := ⟨by rw [HTK.out]; exact hs3⟩
                clear hs3 hsub
                go_wp2
                go_big_quiet (fail)
                go_wp2
                go_roundg (l.length - (kk + 1))
                case measure => omega
                case rel => exact ⟨kk + 1, G2, by omega, by omega, by go_num, hG2, ⟨(HR2.out.alloc _).drewN _⟩, ⟨below_drewN (BW2.out.alloc (by omega) _) _⟩, HS3⟩
              | true =>
                rw [hq] at hc
                have hsrc : Src t (but wo l) a0 HH f HH := .inr ((HS2.out.arr HLB.out (fun x hx => hsub x hx) (by omega) (by omega) (Nat.le_refl _)).1 hq)
                clear hq
                by_cases hf1 : (f : Int) = wo
                · have hd1 : ((f : Int) != wo) = false := by simp [hf1]
                  have hs3 := sent_out HS2.out ⟨(f : Int), (g : Int), m, n⟩ (.inl hf1)
                  clear hf1
                  have HS3 : Aside0 (Sent t (but wo l) a0 HH HH (but wo (l.take (kk + 1))) G2) := ⟨by rw [HTK.out]; exact hs3⟩
                  clear hs3 hsub
                  go_wp2
                  go_big_quiet (fail)
                  go_wp2
                  go_roundg (l.length - (kk + 1))
                  case measure => omega
                  case rel => exact ⟨kk + 1, G2, by omega, by omega, by go_num, hG2, ⟨(HR2.out.alloc _).drewN _⟩, ⟨below_drewN (BW2.out.alloc (by omega) _) _⟩, HS3⟩
                · have hd1 : ((f : Int) != wo) = true := by simp [hf1]
                  by_cases hf2 : (g : Int) = wo
                  · have hd2 : ((g : Int) != wo) = false := by simp [hf2]
                    have hs3 := sent_out HS2.out ⟨(f : Int), (g : Int), m, n⟩ (.inr hf2)
                    clear hf2
                    have HS3 : Aside0 (Sent t (but wo l) a0 HH HH (but wo (l.take (kk + 1))) G2) := ⟨by rw [HTK.out]; exact hs3⟩
                    clear hs3 hsub
                    go_wp2
                    go_big_quiet (fail)
                    go_wp2
                    go_roundg (l.length - (kk + 1))
                    case measure => omega
                    case rel => exact ⟨kk + 1, G2, by omega, by omega, by go_num, hG2, ⟨(HR2.out.alloc _).drewN _⟩, ⟨below_drewN (BW2.out.alloc (by omega) _) _⟩, HS3⟩
                  · have hd2 : ((g : Int) != wo) = true := by simp [hf2]
                    have HSRC := Aside0.mk hsrc
                    have HF1 := Aside0.mk hf1
                    have HF2 := Aside0.mk hf2
                    clear hf1 hf2
                    clear hsrc hsub
                    go_wp2
                    go_big_quiet (fail)
                    go_wp2_with fail
                    have HN3 := Aside0.mk (HN2.out.alloc (.cells #[.int .i8 (f : Int), .int .i8 (g : Int), .int .i16 m, .int .i16 n] 44))
                    refine (l07Along_is (B := B) (s := s) (t := t) (l := l) f m n g HH (w.heap.size + 1) G2 hG2 _ _ (HN3.out.below (below_drewN (Below.refl _ _) _)) ((HR2.out.alloc _).drewN _) (by omega) (by omega) (by omega) ht0 ht1 m1 m2 n1 n2).mono ?_
                    rintro e w3 ⟨rfl, hb3, G3, hG3, hR3, hal⟩
                    have HR3 := Aside0.mk hR3
                    have BW3 : Aside0 (Below (w.heap.size + 1) W w3) := ⟨(below_drewN (BW2.out.alloc (by omega) _) _).trans hb3⟩
                    have HS3 : Aside0 (Sent t (but wo l) a0 HH HH (but wo (l.take (kk + 1))) G3) := ⟨by rw [HTK.out]; exact sent_go HS2.out ⟨(f : Int), (g : Int), m, n⟩ g rfl HF1.out HF2.out HSRC.out hal⟩
                    clear hb3 hR3 hal
                    go_wp2
                    go_roundg (l.length - (kk + 1))
                    case measure => omega
                    case rel => exact ⟨kk + 1, G3, by omega, by omega, by go_num, hG3, HR3, BW3, HS3⟩
          · have hb1z : ((HH : Int) == (h0 : Int)) = false := beq_false_of_ne (by omega)
            have hc := HR2.out.cell (f * 301 + HH) (by omega)
            cases hq : G2.getD (f * 301 + HH) false with
            | false =>
              rw [hq] at hc
              have hs3 := sent_no HS2.out ⟨(f : Int), (g : Int), m, n⟩ (fun h => h.elim (fun h => hb1 h.2) (fun (h : Arr t (but wo l) a0 h0 f HH) => by have := (HS2.out.arr HLB.out (fun x hx => hsub x hx) (by omega) (by omega) (Nat.le_refl _)).2 h; unfold gat at this; rw [hq] at this; cases this))
              clear hq
              have HS3 : Aside0 (Sent t (but wo l) a0 h0 HH (but wo (l.take (kk + 1))) G2) := ⟨by rw [HTK.out]; exact hs3⟩
              clear hs3 hsub
              go_wp2
              go_big_quiet (fail)
              go_wp2
              go_roundg (l.length - (kk + 1))
              case measure => omega
              case rel => exact ⟨kk + 1, G2, by omega, by omega, by go_num, hG2, ⟨(HR2.out.alloc _).drewN _⟩, ⟨below_drewN (BW2.out.alloc (by omega) _) _⟩, HS3⟩
            | true =>
              rw [hq] at hc
              have hsrc : Src t (but wo l) a0 h0 f HH := .inr ((HS2.out.arr HLB.out (fun x hx => hsub x hx) (by omega) (by omega) (Nat.le_refl _)).1 hq)
              clear hq
              by_cases hf1 : (f : Int) = wo
              · have hd1 : ((f : Int) != wo) = false := by simp [hf1]
                have hs3 := sent_out HS2.out ⟨(f : Int), (g : Int), m, n⟩ (.inl hf1)
                clear hf1
                have HS3 : Aside0 (Sent t (but wo l) a0 h0 HH (but wo (l.take (kk + 1))) G2) := ⟨by rw [HTK.out]; exact hs3⟩
                clear hs3 hsub
                go_wp2
                go_big_quiet (fail)
                go_wp2
                go_roundg (l.length - (kk + 1))
                case measure => omega
                case rel => exact ⟨kk + 1, G2, by omega, by omega, by go_num, hG2, ⟨(HR2.out.alloc _).drewN _⟩, ⟨below_drewN (BW2.out.alloc (by omega) _) _⟩, HS3⟩
              · have hd1 : ((f : Int) != wo) = true := by simp [hf1]
                by_cases hf2 : (g : Int) = wo
                · have hd2 : ((g : Int) != wo) = false := by simp [hf2]
                  have hs3 := sent_out HS2.out ⟨(f : Int), (g : Int), m, n⟩ (.inr hf2)
                  clear hf2
                  have HS3 : Aside0 (Sent t (but wo l) a0 h0 HH (but wo (l.take (kk + 1))) G2) := ⟨by rw [HTK.out]; exact hs3⟩
                  clear hs3 hsub
                  go_wp2
                  go_big_quiet (fail)
                  go_wp2
                  go_roundg (l.length - (kk + 1))
                  case measure => omega
                  case rel => exact ⟨kk + 1, G2, by omega, by omega, by go_num, hG2, ⟨(HR2.out.alloc _).drewN _⟩, ⟨below_drewN (BW2.out.alloc (by omega) _) _⟩, HS3⟩
                · have hd2 : ((g : Int) != wo) = true := by simp [hf2]
                  have HSRC := Aside0.mk hsrc
                  have HF1 := Aside0.mk hf1
                  have HF2 := Aside0.mk hf2
                  clear hf1 hf2
                  clear hsrc hsub
                  go_wp2
                  go_big_quiet (fail)
                  go_wp2_with fail
                  have HN3 := Aside0.mk (HN2.out.alloc (.cells #[.int .i8 (f : Int), .int .i8 (g : Int), .int .i16 m, .int .i16 n] 44))
                  refine (l07Along_is (B := B) (s := s) (t := t) (l := l) f m n g HH (w.heap.size + 1) G2 hG2 _ _ (HN3.out.below (below_drewN (Below.refl _ _) _)) ((HR2.out.alloc _).drewN _) (by omega) (by omega) (by omega) ht0 ht1 m1 m2 n1 n2).mono ?_
                  rintro e w3 ⟨rfl, hb3, G3, hG3, hR3, hal⟩
                  have HR3 := Aside0.mk hR3
                  have BW3 : Aside0 (Below (w.heap.size + 1) W w3) := ⟨(below_drewN (BW2.out.alloc (by omega) _) _).trans hb3⟩
                  have HS3 : Aside0 (Sent t (but wo l) a0 h0 HH (but wo (l.take (kk + 1))) G3) := ⟨by rw [HTK.out]; exact sent_go HS2.out ⟨(f : Int), (g : Int), m, n⟩ g rfl HF1.out HF2.out HSRC.out hal⟩
                  clear hb3 hR3 hal
                  go_wp2
                  go_roundg (l.length - (kk + 1))
                  case measure => omega
                  case rel => exact ⟨kk + 1, G3, by omega, by omega, by go_num, hG3, HR3, BW3, HS3⟩
        · have hltz : ¬ (kk : Int) < (l.length : Int) := by omega
          have hk : kk = l.length := by omega
          have HS3 : Aside0 (Sent t (but wo l) a0 h0 (HH + 1) [] G2) := ⟨by have := HS2.out; rw [hk, List.take_length] at this; exact this.next⟩
          clear hk
          go_wp2
          go_roundg (301 - (HH + 1))
          case measure => omega
          case rel => exact ⟨HH + 1, G2, by omega, by omega, by omega, by go_num, hG2, HR2, BW2, HS3⟩
    · have hk : HH = 301 := by omega
      have HS3 : Aside0 (ArrT t (but wo l) a0 h0 G) := ⟨by have := HS.out; rw [hk] at this; exact this.done HLB.out⟩
      clear hk
      go_wp2
      go_ret
      exact ⟨w.heap.size + 1, by omega, G, hG, HR.out, HS3.out, rfl, hB0.out.trans (BW.out.mono (by omega))⟩
end Go.Proofs.Yticfecncdpdanaa.Q
