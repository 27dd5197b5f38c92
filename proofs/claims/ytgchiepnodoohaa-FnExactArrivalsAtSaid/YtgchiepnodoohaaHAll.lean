/- impl's begin, ride, next, all: the hours at which a parcel can arrive, as arrays. -/
import Derived.Test.YtgchiepnodoohaaGrid
import Derived.Test.YtgchiepnodoohaaHValid
import Derived.RegionTactic
import Derived.StillTailTactics
import Derived.Deep.QuietTactic
import Derived.BigQuiet
import Derived.ChangeAlike
set_option linter.unusedVariables false
set_option linter.unusedSimpArgs false
namespace Go.Proofs.Ytgchiepnodoohaa.Q
open Go.RowKit Go.Proofs.YtgchiepnodoohaaW.PrintWords Go.Proofs.YtgchiepnodoohaaW.PrintLast Go.Proofs.YtgchiepnodoohaaW.PrintMore

@[irreducible] def noTimes : List Bool := List.replicate 2408 false
theorem noTimes_length : noTimes.length = 2408 := by unfold noTimes; exact List.length_replicate
theorem noTimes_get (i : Nat) : noTimes.getD i false = false := by
  unfold noTimes
  rw [List.getD_eq_getElem?_getD, List.getElem?_replicate]
  split <;> rfl
theorem take_snoc' {α : Type} (l : List α) (z : α) (i : Nat) (h : i < l.length) : l.take (i + 1) = l.take i ++ [l.getD i z] := by
  rw [List.take_succ_eq_append_getElem h, List.getD_eq_getElem?_getD, List.getElem?_eq_getElem h]
  rfl
@[irreducible] def noHours : List Bool := List.replicate 301 false
theorem noHours_length : noHours.length = 301 := by unfold noHours; exact List.length_replicate
theorem zcH : Try.zeroCells98 = bcells noHours := by unfold noHours; exact zc98
theorem zcT : Try.zeroCells100 = bcells noTimes := by unfold noTimes; exact zc100
theorem sizeT : (Try.prog.info? 100).map (·.size) = some 2408 := by kernel_rfl
theorem sizeH : (Try.prog.info? 98).map (·.size) = some 301 := by kernel_rfl
theorem run_indexH (q : IntKind) (F : List Bool) (hF : F.length = 301) (k : Nat) (hk : k < 301) (w : World) :
    Sem.run Try.prog (Instr.index 98 (.agg (bcells F)) (.int q (k : Int))) w = .ok (.bool (F.getD k false)) w := by
  have h := bcells_get_lt F k (by omega)
  have h0 : (0 : Int) ≤ (k : Int) := by omega
  have h1 : (k : Int) < 301 := by omega
  simp [Instr.index, asIntOf, run_underlying Try.underlying98, part, Try.isAgg4, Try.sizeOf4, h, h1]
  intro h2
  omega
theorem run_indexT (q : IntKind) (G : List Bool) (hG : G.length = 2408) (k : Nat) (hk : k < 8) (w : World) :
    Sem.run Try.prog (Instr.index 100 (.agg (bcells G)) (.int q (k : Int))) w = .ok (.agg (bcells ((G.drop (k * 301)).take 301))) w := by
  have h0 : (0 : Int) ≤ (k : Int) := by omega
  have h1 : (k : Int) < 8 := by omega
  simp [Instr.index, asIntOf, run_underlying Try.underlying100, part, Try.isAgg98, Try.sizeOf98, h1, bcells_extract]
  intro h2
  omega
section
variable {ops : Array Oper} {rest : List Oper} {o : Oper} {a : Act} {w : World} {Q : Exit → Act → World → Prop}
theorem wpList_loadT (hgd : o.guard = none) (x : Operand) (ho : o.op = .load 100 x) (g : Nat) (hx : a.eval x = .pointer (some ⟨g, 0, none⟩)) (T' : TypeId) (G : List Bool) (hg : RowAt w g T' G) (hG : G.length = 2408)
    (h : wpList Try.prog ops Q rest (a.put o.dst (.agg (bcells G))) w) : wpList Try.prog ops Q (o :: rest) a w :=
  wpList_loadRow _ _ _ Try.underlying100 (fun _ _ => rfl) 2408 sizeT hgd x ho g hx T' G hg hG h
theorem wpList_loadH (hgd : o.guard = none) (x : Operand) (ho : o.op = .load 98 x) (g : Nat) (hx : a.eval x = .pointer (some ⟨g, 0, none⟩)) (T' : TypeId) (G : List Bool) (hg : RowAt w g T' G) (hG : G.length = 301)
    (h : wpList Try.prog ops Q rest (a.put o.dst (.agg (bcells G))) w) : wpList Try.prog ops Q (o :: rest) a w :=
  wpList_loadRow _ _ _ Try.underlying98 (fun _ _ => rfl) 301 sizeH hgd x ho g hx T' G hg hG h
end
attribute [local go_sem] zcT setRow_alloc_at setRow_alloc_past bcells_set bcells_size noTimes_length List.length_set
set_option maxRecDepth 100000 in
theorem begin_is (s h : Nat) (w : World) (hs1 : s < 8) (hh1 : h < 301) : Calls Try.prog 101 #[.agg #[.int .i8 s, .int .i16 h]] w fun e w' =>
    e = .returned (.agg (bcells (noTimes.set (s * 301 + h) true))) ∧ Below w.heap.size w w' := by
  go_enter Try.func101, Try.ntmps101
  go_wp2
  rw [run_storeRow _ _ 100 noTimes noTimes (row_at _ _ _ _ (by simp)) rfl]
  go_wp2
  have hsz : (s : Int) < 8 := by omega
  have hhz : (h : Int) < 301 := by omega
  have hg := bcells_get_lt noTimes (s * 301 + h) (by rw [noTimes_length]; omega)
  go_region
  have hB : Aside0 (Below w.heap.size w ((((w.alloc (.cells #[.int .i8 s, .int .i16 h] 47)).alloc (.cells (bcells noTimes) 100)).alloc (.cells (bcells (noTimes.set (s * 301 + h) true)) 100)).drew)) := ⟨((((Below.refl _ _).alloc (Nat.le_refl _) _).alloc (by simp) _).alloc (by simp; omega) _).drew⟩
  have h3 : RowAt ((((w.alloc (.cells #[.int .i8 s, .int .i16 h] 47)).alloc (.cells (bcells noTimes) 100)).alloc (.cells (bcells (noTimes.set (s * 301 + h) true)) 100)).drew) (w.heap.size + 1 + 1) 100 (noTimes.set (s * 301 + h) true) := (RowAt.new _ _ (by simp) _ _).drew
  have h2 : RowAt ((((w.alloc (.cells #[.int .i8 s, .int .i16 h] 47)).alloc (.cells (bcells noTimes) 100)).alloc (.cells (bcells (noTimes.set (s * 301 + h) true)) 100)).drew) (w.heap.size + 1) 100 noTimes := ((RowAt.new _ _ (by simp) _ _).alloc _).drew
  generalize ((((w.alloc (.cells #[.int .i8 s, .int .i16 h] 47)).alloc (.cells (bcells noTimes) 100)).alloc (.cells (bcells (noTimes.set (s * 301 + h) true)) 100)).drew) = W at *
  have H2 := Aside0.mk h2
  have H3 := Aside0.mk h3
  clear h2 h3 hg
  go_wp2_with (refine wpList_loadT rfl (.tmp 3) rfl _ rfl _ _ H3.out (by rw [List.length_set, noTimes_length]) ?_)
  rw [run_storeRow W (w.heap.size + 1) 100 noTimes _ H2.out.out (by rw [List.length_set])]
  have H4 := Aside0.mk (H2.out.row (noTimes.set (s * 301 + h) true))
  have hB2 := Aside0.mk (below_setRow hB.out (show w.heap.size ≤ w.heap.size + 1 by omega) (bcells (noTimes.set (s * 301 + h) true)))
  clear H2 H3 hB
  generalize W.setRow (w.heap.size + 1) (bcells (noTimes.set (s * 301 + h) true)) = W2 at *
  go_wp2
  exact bodyPost_ret_by (results_cell_row (p := 2) (ty := 100) rfl _ _ (w.heap.size + 1) 100 (bcells (noTimes.set (s * 301 + h) true)) (0, 0) _ rfl H4.out.out Try.underlying100 rfl (by rw [sizeT, bcells_size, List.length_set, noTimes_length])) rfl ⟨rfl, hB2.out⟩
/-- Hours at which a lane's way can end, from an hour. -/
def goes (t m n : Int) (h k : Nat) : Prop := (h : Int) + m ≤ k ∧ (k : Int) ≤ h + t + n ∧ k ≤ 300
/-- What a ride adds to some times. -/
def Rode (t m n : Int) (off : Nat) (F G G' : List Bool) : Prop := ∀ i, G'.getD i false = true ↔ G.getD i false = true ∨ ∃ h k, h < 301 ∧ F.getD h false = true ∧ goes t m n h k ∧ i = off + k
attribute [local go_sem] max2_int min2_int max_two min_two
set_option maxHeartbeats 2000000 in
set_option maxRecDepth 100000 in
theorem ride_is (s t f g m n : Int) (v : Value) (F : List Bool) (hF : F.length = 301) (b off : Nat) (G : List Bool) (hG : G.length = 2408) (hoff : off + 301 ≤ 2408) (w : World) (hb : RowAt w b 100 G)
    (ht0 : 0 ≤ t) (ht1 : t ≤ 40) (hm0 : 1 ≤ m) (hm1 : m ≤ 40) (hn0 : 0 ≤ n) (hn1 : n ≤ 40) :
    Calls Try.prog 106 #[.agg #[.int .i8 s, .int .i16 t, v], .agg #[.int .i8 f, .int .i8 g, .int .i16 m, .int .i16 n], .agg (bcells F), .pointer (some ⟨b, off, none⟩)] w fun e w' =>
      e = .returned (.tuple #[]) ∧ Below b w w' ∧ ∃ G' : List Bool, G'.length = 2408 ∧ RowAt w' b 100 G' ∧ Rode t m n off F G G' := by
  have HB := Aside0.mk hb
  have hblt : b < w.heap.size := hb.lt
  clear hb
  go_enter Try.func106, Try.ntmps106
  go_wp2_with (refine wpList_loadH rfl (.tmp 6) rfl _ rfl _ _ (RowAt.new _ _ (by simp) 98 F) hF ?_)
  have HB0 := Aside0.mk (((HB.out.alloc (.cells #[.int .i8 s, .int .i16 t, v] 31)).alloc (.cells #[.int .i8 f, .int .i8 g, .int .i16 m, .int .i16 n] 82)).alloc (.cells (bcells F) 98))
  have hB0 : Aside0 (Below b w (((w.alloc (.cells #[.int .i8 s, .int .i16 t, v] 31)).alloc (.cells #[.int .i8 f, .int .i8 g, .int .i16 m, .int .i16 n] 82)).alloc (.cells (bcells F) 98))) := ⟨((((Below.refl b w).alloc (by omega) _).alloc (by simp; omega) _).alloc (by simp; omega) _)⟩
  have c4 : Aside0 ((((w.alloc (.cells #[.int .i8 s, .int .i16 t, v] 31)).alloc (.cells #[.int .i8 f, .int .i8 g, .int .i16 m, .int .i16 n] 82)).alloc (.cells (bcells F) 98)).cell? ⟨w.heap.size, 1, none⟩ = some (.int .i16 t)) := ⟨by go_simp⟩
  have c5 : Aside0 ((((w.alloc (.cells #[.int .i8 s, .int .i16 t, v] 31)).alloc (.cells #[.int .i8 f, .int .i8 g, .int .i16 m, .int .i16 n] 82)).alloc (.cells (bcells F) 98)).cell? ⟨w.heap.size + 1, 2, none⟩ = some (.int .i16 m)) := ⟨by go_simp⟩
  have c6 : Aside0 ((((w.alloc (.cells #[.int .i8 s, .int .i16 t, v] 31)).alloc (.cells #[.int .i8 f, .int .i8 g, .int .i16 m, .int .i16 n] 82)).alloc (.cells (bcells F) 98)).cell? ⟨w.heap.size + 1, 3, none⟩ = some (.int .i16 n)) := ⟨by go_simp⟩
  generalize (((w.alloc (.cells #[.int .i8 s, .int .i16 t, v] 31)).alloc (.cells #[.int .i8 f, .int .i8 g, .int .i16 m, .int .i16 n] 82)).alloc (.cells (bcells F) 98)) = W at *
  clear HB
  have hne0 : w.heap.size ≠ b := by omega
  have hne1 : w.heap.size + 1 ≠ b := by omega
  go_loopg [12] 301 (fun gg v12 wr => ∃ (kk : Nat) (G' : List Bool), kk ≤ 301 ∧ 301 - kk ≤ gg ∧ v12 = .int .i64 kk ∧ G'.length = 2408 ∧ Aside0 (RowAt wr b 100 G') ∧ Aside0 (Only b W wr) ∧ Aside0 (∀ i, G'.getD i false = true ↔ G.getD i false = true ∨ ∃ h k, h < kk ∧ F.getD h false = true ∧ goes t m n h k ∧ i = off + k))
  case atStart => exact ⟨0, G, by omega, by omega, rfl, hG, HB0, ⟨Only.refl _ _⟩, ⟨fun i => ⟨Or.inl, fun h => h.elim id (fun ⟨h, k, h1, _⟩ => absurd h1 (by omega))⟩⟩⟩
  case round =>
    obtain ⟨kk, G', hkk, hg, rfl, hG', HR, HO, HI⟩ := hrel
    by_cases hlt : kk < 301
    · have hltz : (kk : Int) < 301 := by omega
      have hFk := bcells_get_lt F kk (by omega)
      have d4 := (HO.out.cell w.heap.size 1 hne0).trans c4.out
      have d5 := (HO.out.cell (w.heap.size + 1) 2 hne1).trans c5.out
      have d6 := (HO.out.cell (w.heap.size + 1) 3 hne1).trans c6.out
      cases hq : F.getD kk false with
      | false =>
        have hix := fun w => run_indexH .i64 F hF kk hlt w
        rw [hq] at hix
        have HQ := Aside0.mk hq
        clear hq hFk
        go_wp2
        go_roundg (301 - (kk + 1))
        case measure => omega
        case rel =>
          refine ⟨kk + 1, G', by omega, by omega, by go_num, hG', HR, HO, ⟨fun i => ?_⟩⟩
          rw [HI.out i]
          constructor
          · rintro (h | ⟨h, k, h1, h2⟩)
            · exact .inl h
            · exact .inr ⟨h, k, by omega, h2⟩
          · rintro (h | ⟨h, k, h1, h2, h3⟩)
            · exact .inl h
            · rcases Nat.lt_succ_iff_lt_or_eq.1 h1 with h1 | rfl
              · exact .inr ⟨h, k, h1, h2, h3⟩
              · rw [HQ.out] at h2
                cases h2
      | true =>
        have hix := fun w => run_indexH .i64 F hF kk hlt w
        rw [hq] at hix
        have HQ := Aside0.mk hq
        clear hq hFk
        go_wp2
        obtain ⟨wo, hwo⟩ : ∃ wo : World, wo = wr := ⟨_, rfl⟩
        subst hwo
        go_loopg [10] 341 (fun gg v10 wq => ∃ (x : Nat) (G2 : List Bool), (kk : Int) + m ≤ x ∧ x ≤ 341 ∧ 341 - x ≤ gg ∧ v10 = .int .i64 x ∧ G2.length = 2408 ∧ Aside0 (RowAt wq b 100 G2) ∧ Aside0 (Only b W wq) ∧ Aside0 (∀ i, G2.getD i false = true ↔ G'.getD i false = true ∨ ∃ k, k < x ∧ goes t m n kk k ∧ i = off + k))
        case atStart =>
          refine ⟨((kk : Int) + m).toNat, G', by omega, by omega, by omega, ?_, hG', HR, HO, ⟨fun i => ⟨Or.inl, fun h => h.elim id (fun ⟨k, h1, h2, _⟩ => ?_)⟩⟩⟩
          · congr 1
            omega
          · unfold goes at h2
            omega
        case round =>
          obtain ⟨x, G2, hx0, hx1, hg2, rfl, hG2, HR2, HO2, HI2⟩ := hrel
          have e4 := (HO2.out.cell w.heap.size 1 hne0).trans c4.out
          have e5 := (HO2.out.cell (w.heap.size + 1) 2 hne1).trans c5.out
          have e6 := (HO2.out.cell (w.heap.size + 1) 3 hne1).trans c6.out
          clear d4 d5 d6
          by_cases hin : (x : Int) ≤ kk + t + n ∧ x ≤ 300
          · obtain ⟨hin1, hin2⟩ := hin
            have hin3 : (x : Int) < 301 := by omega
            have hc := HR2.out.cell (off + x) (by omega)
            have hfz := HR2.out.frozen (off + x)
            have HI3 : Aside0 (∀ i, (G2.set (off + x) true).getD i false = true ↔ G'.getD i false = true ∨ ∃ k, k < x + 1 ∧ goes t m n kk k ∧ i = off + k) := ⟨fun i => by
              rw [set_true G2 (off + x) i (by omega), HI2.out i]
              constructor
              · rintro (h | h | ⟨k, h1, h2, h3⟩)
                · exact .inr ⟨x, by omega, ⟨by omega, by omega, by omega⟩, h⟩
                · exact .inl h
                · exact .inr ⟨k, by omega, h2, h3⟩
              · rintro (h | ⟨k, h1, h2, h3⟩)
                · exact .inr (.inl h)
                · rcases Nat.lt_succ_iff_lt_or_eq.1 h1 with h1 | rfl
                  · exact .inr (.inr ⟨k, h1, h2, h3⟩)
                  · exact .inl h3⟩
            go_wp2
            all_goals
              go_roundg (341 - (x + 1))
              case measure => omega
              case rel => exact ⟨x + 1, G2.set (off + x) true, by omega, by omega, by omega, by go_num, by rw [List.length_set]; exact hG2, ⟨HR2.out.set (off + x) true⟩, ⟨HO2.out.setCell (off + x) (.bool true)⟩, HI3⟩
          · have HI3 : Aside0 (∀ i, G2.getD i false = true ↔ G.getD i false = true ∨ ∃ h k, h < kk + 1 ∧ F.getD h false = true ∧ goes t m n h k ∧ i = off + k) := ⟨fun i => by
              rw [HI2.out i, HI.out i]
              constructor
              · rintro ((h | ⟨h, k, h1, h2⟩) | ⟨k, h1, h2, h3⟩)
                · exact .inl h
                · exact .inr ⟨h, k, by omega, h2⟩
                · exact .inr ⟨kk, k, by omega, HQ.out, h2, h3⟩
              · rintro (h | ⟨h, k, h1, h2, h3, h4⟩)
                · exact .inl (.inl h)
                · rcases Nat.lt_succ_iff_lt_or_eq.1 h1 with h1 | rfl
                  · exact .inl (.inr ⟨h, k, h1, h2, h3, h4⟩)
                  · refine .inr ⟨k, ?_, h3, h4⟩
                    unfold goes at h3
                    omega⟩
            clear HI HI2
            by_cases hx2 : (x : Int) ≤ kk + t + n
            · have hx3 : (300 : Int) < x := by omega
              go_wp2
              all_goals
                go_roundg (301 - (kk + 1))
                case measure => omega
                case rel => exact ⟨kk + 1, G2, by omega, by omega, by go_num, hG2, HR2, HO2, HI3⟩
            · have hx3 : (kk : Int) + t + n < x := by omega
              go_wp2
              all_goals
                go_roundg (301 - (kk + 1))
                case measure => omega
                case rel => exact ⟨kk + 1, G2, by omega, by omega, by go_num, hG2, HR2, HO2, HI3⟩
    · have hltz : ¬ (kk : Int) < 301 := by omega
      have hk : kk = 301 := by omega
      have HI3 : Aside0 (∀ i, G'.getD i false = true ↔ G.getD i false = true ∨ ∃ h k, h < 301 ∧ F.getD h false = true ∧ goes t m n h k ∧ i = off + k) := by rw [hk] at HI; exact HI
      clear HI hk
      go_wp2
      go_end0
      exact ⟨rfl, hB0.out.trans (HO.out.below (Nat.le_refl b)), G', hG', HR.out, HI3.out⟩
/-- A lane of a valid net. -/
def laneV (x : S82) : Prop := 0 ≤ x.f0 ∧ x.f0 < 8 ∧ 0 ≤ x.f1 ∧ x.f1 < 8 ∧ 1 ≤ x.f2 ∧ x.f2 ≤ 40 ∧ 0 ≤ x.f3 ∧ x.f3 ≤ 40
def gat (G : List Bool) (s h : Nat) : Bool := G.getD (s * 301 + h) false
/-- The times N are those behind one lane more, of times A. -/
def NextT (t : Int) (l : List S82) (A N : List Bool) : Prop := ∀ s h, s < 8 → h < 301 → (gat N s h = true ↔ ∃ x ∈ l, x.f1 = (s : Int) ∧ ∃ k, k < 301 ∧ gat A x.f0.toNat k = true ∧ goes t x.f2 x.f3 k h)
theorem goes_le {t m n : Int} {h k : Nat} (hg : goes t m n h k) : k ≤ 300 := hg.2.2
theorem next_snoc (t : Int) (ls : List S82) (A G G' : List Bool) (x : S82) (f g : Nat) (hf : x.f0 = (f : Int)) (hg : x.f1 = (g : Int)) (hN : NextT t ls A G) (hR : Rode t x.f2 x.f3 (g * 301) ((A.drop (f * 301)).take 301) G G') : NextT t (ls ++ [x]) A G' := by
  intro s h hs hh
  have h1 := hR (s * 301 + h)
  have h2 := hN s h hs hh
  unfold gat at h2 ⊢
  rw [h1, h2]
  constructor
  · rintro (⟨y, hy, h3⟩ | ⟨k, h', hk, hF, hgo, he⟩)
    · exact ⟨y, List.mem_append_left _ hy, h3⟩
    · rw [part_getD _ _ _ _ hk] at hF
      have := goes_le hgo
      have e1 : g = s := by omega
      have e2 : h' = h := by omega
      subst e1 e2
      exact ⟨x, List.mem_append_right _ List.mem_cons_self, hg, k, hk, by rw [hf]; exact hF, hgo⟩
  · rintro ⟨y, hy, h3, k, hk, h4, h5⟩
    rcases List.mem_append.1 hy with hy | hy
    · exact .inl ⟨y, hy, h3, k, hk, h4, h5⟩
    · obtain rfl := List.mem_singleton.1 hy
      refine .inr ⟨k, h, hk, ?_, h5, by omega⟩
      rw [part_getD _ _ _ _ hk]
      rw [hf] at h4
      exact h4
theorem wpList_loadHp {ops : Array Oper} {rest : List Oper} {o : Oper} {a : Act} {w : World} {Q : Exit → Act → World → Prop} (hgd : o.guard = none) (x : Operand) (ho : o.op = .load 98 x) (g off : Nat) (hx : a.eval x = .pointer (some ⟨g, off, none⟩)) (T' : TypeId) (G : List Bool) (hg : RowAt w g T' G) (hG : off + 301 ≤ G.length)
    (h : wpList Try.prog ops Q rest (a.put o.dst (.agg (bcells ((G.drop off).take 301)))) w) : wpList Try.prog ops Q (o :: rest) a w :=
  wpList_loadPart 98 301 _ Try.underlying98 rfl sizeH hgd x ho g off hx T' G hg hG h
set_option maxHeartbeats 2000000 in
set_option maxRecDepth 100000 in
theorem next_is (s t : Int) (A0 : Option Addr) (c : Nat) (l : List S82) (A : List Bool) (hA : A.length = 2408) (w : World) (hr : Kd.C k82 w A0 l.length l) (hc : l.length ≤ c) (hl : ∀ x ∈ l, laneV x) (ht0 : 0 ≤ t) (ht1 : t ≤ 40) :
    Calls Try.prog 102 #[.agg #[.int .i8 s, .int .i16 t, .slice A0 l.length c], .agg (bcells A)] w fun e w' =>
      ∃ N : List Bool, N.length = 2408 ∧ NextT t l A N ∧ e = .returned (.agg (bcells N)) ∧ Below w.heap.size w w' := by
  have HR := Aside0.mk hr
  have HL := Aside0.mk hl
  have hbig : l.length ≤ 9223372036854775807 := hr.2.1
  clear hr hl
  go_enter Try.func102, Try.ntmps102
  go_wp2
  rw [run_storeRow _ _ 100 noTimes noTimes (row_at _ _ _ _ (by simp)) rfl]
  go_wp2
  have hB0 : Aside0 (Below w.heap.size w ((((w.alloc (.cells #[.int .i8 s, .int .i16 t, .slice A0 l.length c] 31)).alloc (.cells (bcells A) 100)).alloc (.cells (bcells noTimes) 100)).alloc (.cells (bcells noTimes) 100))) := ⟨((((Below.refl _ _).alloc (Nat.le_refl _) _).alloc (by simp) _).alloc (by simp; omega) _).alloc (by simp; omega) _⟩
  have R3 : Aside0 (RowAt ((((w.alloc (.cells #[.int .i8 s, .int .i16 t, .slice A0 l.length c] 31)).alloc (.cells (bcells A) 100)).alloc (.cells (bcells noTimes) 100)).alloc (.cells (bcells noTimes) 100)) (w.heap.size + 1 + 1 + 1) 100 noTimes) := ⟨RowAt.new _ _ (by simp) _ _⟩
  have R1 : Aside0 (RowAt ((((w.alloc (.cells #[.int .i8 s, .int .i16 t, .slice A0 l.length c] 31)).alloc (.cells (bcells A) 100)).alloc (.cells (bcells noTimes) 100)).alloc (.cells (bcells noTimes) 100)) (w.heap.size + 1) 100 A) := ⟨((RowAt.new _ _ (by simp) _ _).alloc _).alloc _⟩
  have R2 : Aside0 (RowAt ((((w.alloc (.cells #[.int .i8 s, .int .i16 t, .slice A0 l.length c] 31)).alloc (.cells (bcells A) 100)).alloc (.cells (bcells noTimes) 100)).alloc (.cells (bcells noTimes) 100)) (w.heap.size + 1 + 1) 100 noTimes) := ⟨(RowAt.new _ _ (by simp) _ _).alloc _⟩
  have c0 : Aside0 (((((w.alloc (.cells #[.int .i8 s, .int .i16 t, .slice A0 l.length c] 31)).alloc (.cells (bcells A) 100)).alloc (.cells (bcells noTimes) 100)).alloc (.cells (bcells noTimes) 100)).cell? ⟨w.heap.size, 0, none⟩ = some (.int .i8 s)) := ⟨by go_simp⟩
  have c1 : Aside0 (((((w.alloc (.cells #[.int .i8 s, .int .i16 t, .slice A0 l.length c] 31)).alloc (.cells (bcells A) 100)).alloc (.cells (bcells noTimes) 100)).alloc (.cells (bcells noTimes) 100)).cell? ⟨w.heap.size, 1, none⟩ = some (.int .i16 t)) := ⟨by go_simp⟩
  have c2 : Aside0 (((((w.alloc (.cells #[.int .i8 s, .int .i16 t, .slice A0 l.length c] 31)).alloc (.cells (bcells A) 100)).alloc (.cells (bcells noTimes) 100)).alloc (.cells (bcells noTimes) 100)).cell? ⟨w.heap.size, 2, none⟩ = some (.slice A0 l.length c)) := ⟨by go_simp⟩
  have hWz : Aside0 (((((w.alloc (.cells #[.int .i8 s, .int .i16 t, .slice A0 l.length c] 31)).alloc (.cells (bcells A) 100)).alloc (.cells (bcells noTimes) 100)).alloc (.cells (bcells noTimes) 100)).heap.size = w.heap.size + 1 + 1 + 1 + 1) := ⟨by simp⟩
  generalize (((w.alloc (.cells #[.int .i8 s, .int .i16 t, .slice A0 l.length c] 31)).alloc (.cells (bcells A) 100)).alloc (.cells (bcells noTimes) 100)).alloc (.cells (bcells noTimes) 100) = W at *
  go_loopg [12] l.length (fun gg v12 wr => ∃ (kk : Nat) (G : List Bool), kk ≤ l.length ∧ l.length - kk ≤ gg ∧ v12 = .int .i64 kk ∧ G.length = 2408 ∧ Aside0 (RowAt wr (w.heap.size + 1 + 1 + 1) 100 G) ∧ Aside0 (Below (w.heap.size + 1 + 1 + 1) W wr) ∧ Aside0 (NextT t (l.take kk) A G))
  case atStart =>
    refine ⟨0, noTimes, Nat.zero_le _, by omega, rfl, noTimes_length, R3, ⟨Below.refl _ _⟩, ⟨fun s' h' hs' hh' => ?_⟩⟩
    unfold gat
    rw [noTimes_get]
    simp
  case round =>
    obtain ⟨kk, G, hkk, hg, rfl, hG, HG, BW, HN⟩ := hrel
    have BW0 : Aside0 (Below w.heap.size w wr) := ⟨hB0.out.trans (BW.out.mono (by omega))⟩
    have d0 := (BW.out.cell (p := ⟨w.heap.size, 0, none⟩) (by simp; omega)).trans c0.out
    have d1 := (BW.out.cell (p := ⟨w.heap.size, 1, none⟩) (by simp; omega)).trans c1.out
    have d2 := (BW.out.cell (p := ⟨w.heap.size, 2, none⟩) (by simp; omega)).trans c2.out
    have hwr : w.heap.size + 1 + 1 + 1 + 1 ≤ wr.heap.size := by rw [← hWz.out]; exact BW.out.size
    have hlt0 : w.heap.size < wr.heap.size := by omega
    have RA : Aside0 (RowAt wr (w.heap.size + 1) 100 A) := ⟨R1.out.below BW.out (by omega)⟩
    by_cases hlt : kk < l.length
    · have hltz : (kk : Int) < (l.length : Int) := by omega
      obtain ⟨ad, e, hx0, hx1, hx2, hx3⟩ := at_T82 (Kd.C_below HR.out BW0.out) (kk : Int) (by omega) hltz
      have hy := HL.out (l.getD kk z82) (by rw [List.getD_eq_getElem?_getD, List.getElem?_eq_getElem hlt]; exact List.getElem_mem hlt)
      have htk := take_snoc' l z82 kk hlt
      simp only [rd_T82, Int.toNat_natCast] at hx0 hx1 hx2 hx3
      subst e
      generalize l.getD kk z82 = y at hx0 hx1 hx2 hx3 hy htk
      have HTK := Aside0.mk htk
      obtain ⟨f, g, m, n⟩ := y
      obtain ⟨f1, f2, g1, g2, m1, m2, n1, n2⟩ := hy
      simp only at f1 f2 g1 g2 m1 m2 n1 n2 hx0 hx1 hx2 hx3
      obtain ⟨f, rfl⟩ := Int.eq_ofNat_of_zero_le f1
      obtain ⟨g, rfl⟩ := Int.eq_ofNat_of_zero_le g1
      clear htk
      go_wp2
      refine wp_region_still_tail 9 (by kernel_rfl) (by kernel_rfl) ?_
      simp only [List.take_succ_cons, List.take_zero, List.drop_succ_cons, List.drop_zero]
      change wpStill _ _ (World.drew (wr.alloc (.cells #[.int .i8 (f : Int), .int .i8 (g : Int), .int .i16 m, .int .i16 n] 82))) (fun a' => wpList _ _ _ _ a' (World.drew (wr.alloc (.cells #[.int .i8 (f : Int), .int .i8 (g : Int), .int .i16 m, .int .i16 n] 82)))) _ _
      have BW2 : Aside0 (Below (w.heap.size + 1 + 1 + 1) W (World.drew (wr.alloc (.cells #[.int .i8 (f : Int), .int .i8 (g : Int), .int .i16 m, .int .i16 n] 82)))) := ⟨(BW.out.alloc (by omega) _).drew⟩
      have RA2 : Aside0 (RowAt (World.drew (wr.alloc (.cells #[.int .i8 (f : Int), .int .i8 (g : Int), .int .i16 m, .int .i16 n] 82))) (w.heap.size + 1) 100 A) := ⟨(RA.out.alloc _).drew⟩
      have HG2 : Aside0 (RowAt (World.drew (wr.alloc (.cells #[.int .i8 (f : Int), .int .i8 (g : Int), .int .i16 m, .int .i16 n] 82))) (w.heap.size + 1 + 1 + 1) 100 G) := ⟨(HG.out.alloc _).drew⟩
      have q0 : (World.drew (wr.alloc (.cells #[.int .i8 (f : Int), .int .i8 (g : Int), .int .i16 m, .int .i16 n] 82))).cell? ⟨w.heap.size, 0, none⟩ = some (.int .i8 s) := by go_simp
      have q1 : (World.drew (wr.alloc (.cells #[.int .i8 (f : Int), .int .i8 (g : Int), .int .i16 m, .int .i16 n] 82))).cell? ⟨w.heap.size, 1, none⟩ = some (.int .i16 t) := by go_simp
      have q2 : (World.drew (wr.alloc (.cells #[.int .i8 (f : Int), .int .i8 (g : Int), .int .i16 m, .int .i16 n] 82))).cell? ⟨w.heap.size, 2, none⟩ = some (.slice (some ad) l.length c) := by go_simp
      have q3 : (World.drew (wr.alloc (.cells #[.int .i8 (f : Int), .int .i8 (g : Int), .int .i16 m, .int .i16 n] 82))).cell? ⟨wr.heap.size, 0, none⟩ = some (.int .i8 (f : Int)) := by go_simp
      have q4 : (World.drew (wr.alloc (.cells #[.int .i8 (f : Int), .int .i8 (g : Int), .int .i16 m, .int .i16 n] 82))).cell? ⟨wr.heap.size, 1, none⟩ = some (.int .i8 (g : Int)) := by go_simp
      have q5 : (World.drew (wr.alloc (.cells #[.int .i8 (f : Int), .int .i8 (g : Int), .int .i16 m, .int .i16 n] 82))).cell? ⟨wr.heap.size, 2, none⟩ = some (.int .i16 m) := by go_simp
      have q6 : (World.drew (wr.alloc (.cells #[.int .i8 (f : Int), .int .i8 (g : Int), .int .i16 m, .int .i16 n] 82))).cell? ⟨wr.heap.size, 3, none⟩ = some (.int .i16 n) := by go_simp
      generalize World.drew (wr.alloc (.cells #[.int .i8 (f : Int), .int .i8 (g : Int), .int .i16 m, .int .i16 n] 82)) = w2 at *
      clear d0 d1 d2 hx0 hx1 hx2 hx3
      iterate 5 still_step
      refine wpStill_loadPart 98 301 _ Try.underlying98 rfl sizeH rfl (.tmp 20) rfl (w.heap.size + 1) (f * 301) rfl _ A RA2.out (by omega) ?_
      iterate 3 still_step
      refine wpStill_nil ?_
      go_wp2_with fail
      refine (ride_is s t f g m n _ _ (part_length A _ _ (by omega)) (w.heap.size + 1 + 1 + 1) (g * 301) G hG (by omega) w2 HG2.out ht0 ht1 m1 m2 n1 n2).mono ?_
      rintro e w3 ⟨rfl, hb3, G3, hG3, hR3, hRode⟩
      have BW3 : Aside0 (Below (w.heap.size + 1 + 1 + 1) W w3) := ⟨BW2.out.trans hb3⟩
      have HG3 := Aside0.mk hR3
      have HN3 : Aside0 (NextT t (l.take (kk + 1)) A G3) := ⟨by rw [HTK.out]; exact next_snoc t _ A G G3 ⟨f, g, m, n⟩ f g rfl rfl HN.out hRode⟩
      clear hb3 hR3 hRode q0 q1 q2 q3 q4 q5 q6
      go_wp2
      go_roundg (l.length - (kk + 1))
      case measure => omega
      case rel => exact ⟨kk + 1, G3, by omega, by omega, by go_num, hG3, HG3, BW3, HN3⟩
    · have hltz : ¬ (kk : Int) < (l.length : Int) := by omega
      have hk : kk = l.length := by omega
      have HN3 : Aside0 (NextT t l A G) := ⟨by have := HN.out; rw [hk, List.take_length] at this; exact this⟩
      have R2' : Aside0 (RowAt wr (w.heap.size + 1 + 1) 100 noTimes) := ⟨R2.out.below BW.out (by omega)⟩
      clear hk HN
      go_wp2_with (refine wpList_loadT rfl (.tmp 5) rfl _ rfl _ _ HG.out hG ?_)
      rw [run_storeRow wr (w.heap.size + 1 + 1) 100 noTimes _ R2'.out.out (by rw [noTimes_length, hG])]
      have H4 := Aside0.mk (R2'.out.row G)
      have hB2 := Aside0.mk (below_setRow BW0.out (show w.heap.size ≤ w.heap.size + 1 + 1 by omega) (bcells G))
      clear R2' HG BW BW0 d0 d1 d2 RA
      generalize wr.setRow (w.heap.size + 1 + 1) (bcells G) = W2 at *
      go_wp2
      exact bodyPost_ret_by (results_cell_row (p := 4) (ty := 100) rfl _ _ (w.heap.size + 1 + 1) 100 (bcells G) (0, 0) _ rfl H4.out.out Try.underlying100 rfl (by rw [sizeT, bcells_size, hG])) rfl ⟨G, hG, HN3.out, rfl, hB2.out⟩
end Go.Proofs.Ytgchiepnodoohaa.Q
