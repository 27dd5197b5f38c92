/- impl's begin, ride, next, all: the hours at which a parcel can arrive, as arrays. -/
import Derived.Test.YticfecncdpdanaaGrid
import Derived.Test.YticfecncdpdanaaMA
import Derived.RegionTactic
import Derived.StillTailTactics
import Derived.Deep.QuietTactic
import Derived.BigQuiet
import Derived.ChangeAlike
set_option linter.unusedVariables false
set_option linter.unusedSimpArgs false
namespace Go.Proofs.Yticfecncdpdanaa.Q
open Go.RowKit Go.Proofs.YticfecncdpdanaaW.PrintWords Go.Proofs.YticfecncdpdanaaW.PrintLast Go.Proofs.YticfecncdpdanaaW.PrintMore

@[irreducible] def noTimes : List Bool := List.replicate 2408 false
theorem noTimes_length : noTimes.length = 2408 := by unfold noTimes; exact List.length_replicate
theorem noTimes_get (i : Nat) : noTimes.getD i false = false := by
  unfold noTimes
  rw [List.getD_eq_getElem?_getD, List.getElem?_replicate]
  split <;> rfl
theorem take_snoc' {α : Type} (l : List α) (z : α) (i : Nat) (h : i < l.length) : l.take (i + 1) = l.take i ++ [l.getD i z] := by
  rw [List.take_succ_eq_append_getElem h, List.getD_eq_getElem?_getD, List.getElem?_eq_getElem h]
  rfl
@[irreducible] def noHours : List Bool := List.replicate 301 false
theorem noHours_length : noHours.length = 301 := by unfold noHours; exact List.length_replicate
theorem zcH : Try.zeroCells65 = bcells noHours := by unfold noHours; exact zc65
theorem zcT : Try.zeroCells67 = bcells noTimes := by unfold noTimes; exact zc67
theorem sizeT : (Try.prog.info? 67).map (·.size) = some 2408 := by kernel_rfl
theorem sizeH : (Try.prog.info? 65).map (·.size) = some 301 := by kernel_rfl
theorem run_indexH (q : IntKind) (F : List Bool) (hF : F.length = 301) (k : Nat) (hk : k < 301) (w : World) :
    Sem.run Try.prog (Instr.index 65 (.agg (bcells F)) (.int q (k : Int))) w = .ok (.bool (F.getD k false)) w := by
  have h := bcells_get_lt F k (by omega)
  have h0 : (0 : Int) ≤ (k : Int) := by omega
  have h1 : (k : Int) < 301 := by omega
  simp [Instr.index, asIntOf, run_underlying Try.underlying65, part, Try.isAgg4, Try.sizeOf4, h, h1]
  intro h2
  omega
theorem run_indexT (q : IntKind) (G : List Bool) (hG : G.length = 2408) (k : Nat) (hk : k < 8) (w : World) :
    Sem.run Try.prog (Instr.index 67 (.agg (bcells G)) (.int q (k : Int))) w = .ok (.agg (bcells ((G.drop (k * 301)).take 301))) w := by
  have h0 : (0 : Int) ≤ (k : Int) := by omega
  have h1 : (k : Int) < 8 := by omega
  simp [Instr.index, asIntOf, run_underlying Try.underlying67, part, Try.isAgg65, Try.sizeOf65, h1, bcells_extract]
  intro h2
  omega
section
variable {ops : Array Oper} {rest : List Oper} {o : Oper} {a : Act} {w : World} {Q : Exit → Act → World → Prop}
theorem wpList_loadT (hgd : o.guard = none) (x : Operand) (ho : o.op = .load 67 x) (g : Nat) (hx : a.eval x = .pointer (some ⟨g, 0, none⟩)) (T' : TypeId) (G : List Bool) (hg : RowAt w g T' G) (hG : G.length = 2408)
    (h : wpList Try.prog ops Q rest (a.put o.dst (.agg (bcells G))) w) : wpList Try.prog ops Q (o :: rest) a w :=
  wpList_loadRow _ _ _ Try.underlying67 (fun _ _ => rfl) 2408 sizeT hgd x ho g hx T' G hg hG h
theorem wpList_loadH (hgd : o.guard = none) (x : Operand) (ho : o.op = .load 65 x) (g : Nat) (hx : a.eval x = .pointer (some ⟨g, 0, none⟩)) (T' : TypeId) (G : List Bool) (hg : RowAt w g T' G) (hG : G.length = 301)
    (h : wpList Try.prog ops Q rest (a.put o.dst (.agg (bcells G))) w) : wpList Try.prog ops Q (o :: rest) a w :=
  wpList_loadRow _ _ _ Try.underlying65 (fun _ _ => rfl) 301 sizeH hgd x ho g hx T' G hg hG h
end
attribute [local go_sem] zcT setRow_alloc_at setRow_alloc_past bcells_set bcells_size noTimes_length List.length_set
set_option maxRecDepth 100000 in
theorem begin_is (s h : Nat) (w : World) (hs1 : s < 8) (hh1 : h < 301) : Calls Try.prog 68 #[.agg #[.int .i8 s, .int .i16 h]] w fun e w' =>
    e = .returned (.agg (bcells (noTimes.set (s * 301 + h) true))) ∧ Below w.heap.size w w' := by
  go_enter Try.func68, Try.ntmps68
  go_wp2
  rw [run_storeRow _ _ 67 noTimes noTimes (row_at _ _ _ _ (by simp)) rfl]
  go_wp2
  have hsz : (s : Int) < 8 := by omega
  have hhz : (h : Int) < 301 := by omega
  have hg := bcells_get_lt noTimes (s * 301 + h) (by rw [noTimes_length]; omega)
  go_region
  have hB : Aside0 (Below w.heap.size w ((((w.alloc (.cells #[.int .i8 s, .int .i16 h] 31)).alloc (.cells (bcells noTimes) 67)).alloc (.cells (bcells (noTimes.set (s * 301 + h) true)) 67)).drew)) := ⟨((((Below.refl _ _).alloc (Nat.le_refl _) _).alloc (by simp) _).alloc (by simp; omega) _).drew⟩
  have h3 : RowAt ((((w.alloc (.cells #[.int .i8 s, .int .i16 h] 31)).alloc (.cells (bcells noTimes) 67)).alloc (.cells (bcells (noTimes.set (s * 301 + h) true)) 67)).drew) (w.heap.size + 1 + 1) 67 (noTimes.set (s * 301 + h) true) := (RowAt.new _ _ (by simp) _ _).drew
  have h2 : RowAt ((((w.alloc (.cells #[.int .i8 s, .int .i16 h] 31)).alloc (.cells (bcells noTimes) 67)).alloc (.cells (bcells (noTimes.set (s * 301 + h) true)) 67)).drew) (w.heap.size + 1) 67 noTimes := ((RowAt.new _ _ (by simp) _ _).alloc _).drew
  generalize ((((w.alloc (.cells #[.int .i8 s, .int .i16 h] 31)).alloc (.cells (bcells noTimes) 67)).alloc (.cells (bcells (noTimes.set (s * 301 + h) true)) 67)).drew) = W at *
  have H2 := Aside0.mk h2
  have H3 := Aside0.mk h3
  clear h2 h3 hg
  go_wp2_with (refine wpList_loadT rfl (.tmp 3) rfl _ rfl _ _ H3.out (by rw [List.length_set, noTimes_length]) ?_)
  rw [run_storeRow W (w.heap.size + 1) 67 noTimes _ H2.out.out (by rw [List.length_set])]
  have H4 := Aside0.mk (H2.out.row (noTimes.set (s * 301 + h) true))
  have hB2 := Aside0.mk (below_setRow hB.out (show w.heap.size ≤ w.heap.size + 1 by omega) (bcells (noTimes.set (s * 301 + h) true)))
  clear H2 H3 hB
  generalize W.setRow (w.heap.size + 1) (bcells (noTimes.set (s * 301 + h) true)) = W2 at *
  go_wp2
  exact bodyPost_ret_by (results_cell_row (p := 2) (ty := 67) rfl _ _ (w.heap.size + 1) 67 (bcells (noTimes.set (s * 301 + h) true)) (0, 0) _ rfl H4.out.out Try.underlying67 rfl (by rw [sizeT, bcells_size, List.length_set, noTimes_length])) rfl ⟨rfl, hB2.out⟩
/-- Hours at which a lane's way can end, from an hour. -/
def goes (t m n : Int) (h k : Nat) : Prop := (h : Int) + m ≤ k ∧ (k : Int) ≤ h + t + n ∧ k ≤ 300
/-- What a ride adds to some times. -/
def Rode (t m n : Int) (off : Nat) (F G G' : List Bool) : Prop := ∀ i, G'.getD i false = true ↔ G.getD i false = true ∨ ∃ h k, h < 301 ∧ F.getD h false = true ∧ goes t m n h k ∧ i = off + k
attribute [local go_sem] max2_int min2_int max_two min_two
set_option maxHeartbeats 2000000 in
set_option maxRecDepth 100000 in
theorem ride_is (s t f g m n : Int) (v : Value) (F : List Bool) (hF : F.length = 301) (b off : Nat) (G : List Bool) (hG : G.length = 2408) (hoff : off + 301 ≤ 2408) (w : World) (hb : RowAt w b 67 G)
    (ht0 : 0 ≤ t) (ht1 : t ≤ 40) (hm0 : 1 ≤ m) (hm1 : m ≤ 40) (hn0 : 0 ≤ n) (hn1 : n ≤ 40) :
    Calls Try.prog 85 #[.agg #[.int .i8 s, .int .i16 t, v], .agg #[.int .i8 f, .int .i8 g, .int .i16 m, .int .i16 n], .agg (bcells F), .pointer (some ⟨b, off, none⟩)] w fun e w' =>
      e = .returned (.tuple #[]) ∧ Below b w w' ∧ ∃ G' : List Bool, G'.length = 2408 ∧ RowAt w' b 67 G' ∧ Rode t m n off F G G' := by
  have HB := Aside0.mk hb
  have hblt : b < w.heap.size := hb.lt
  clear hb
  go_enter Try.func85, Try.ntmps85
  go_wp2_with (refine wpList_loadH rfl (.tmp 6) rfl _ rfl _ _ (RowAt.new _ _ (by simp) 65 F) hF ?_)
  have HB0 := Aside0.mk (((HB.out.alloc (.cells #[.int .i8 s, .int .i16 t, v] 28)).alloc (.cells #[.int .i8 f, .int .i8 g, .int .i16 m, .int .i16 n] 44)).alloc (.cells (bcells F) 65))
  have hB0 : Aside0 (Below b w (((w.alloc (.cells #[.int .i8 s, .int .i16 t, v] 28)).alloc (.cells #[.int .i8 f, .int .i8 g, .int .i16 m, .int .i16 n] 44)).alloc (.cells (bcells F) 65))) := ⟨((((Below.refl b w).alloc (by omega) _).alloc (by simp; omega) _).alloc (by simp; omega) _)⟩
  have c4 : Aside0 ((((w.alloc (.cells #[.int .i8 s, .int .i16 t, v] 28)).alloc (.cells #[.int .i8 f, .int .i8 g, .int .i16 m, .int .i16 n] 44)).alloc (.cells (bcells F) 65)).cell? ⟨w.heap.size, 1, none⟩ = some (.int .i16 t)) := ⟨by go_simp⟩
  have c5 : Aside0 ((((w.alloc (.cells #[.int .i8 s, .int .i16 t, v] 28)).alloc (.cells #[.int .i8 f, .int .i8 g, .int .i16 m, .int .i16 n] 44)).alloc (.cells (bcells F) 65)).cell? ⟨w.heap.size + 1, 2, none⟩ = some (.int .i16 m)) := ⟨by go_simp⟩
  have c6 : Aside0 ((((w.alloc (.cells #[.int .i8 s, .int .i16 t, v] 28)).alloc (.cells #[.int .i8 f, .int .i8 g, .int .i16 m, .int .i16 n] 44)).alloc (.cells (bcells F) 65)).cell? ⟨w.heap.size + 1, 3, none⟩ = some (.int .i16 n)) := ⟨by go_simp⟩
  generalize (((w.alloc (.cells #[.int .i8 s, .int .i16 t, v] 28)).alloc (.cells #[.int .i8 f, .int .i8 g, .int .i16 m, .int .i16 n] 44)).alloc (.cells (bcells F) 65)) = W at *
  clear HB
  have hne0 : w.heap.size ≠ b := by omega
  have hne1 : w.heap.size + 1 ≠ b := by omega
  go_loopg [12] 301 (fun gg v12 wr => ∃ (kk : Nat) (G' : List Bool), kk ≤ 301 ∧ 301 - kk ≤ gg ∧ v12 = .int .i64 kk ∧ G'.length = 2408 ∧ Aside0 (RowAt wr b 67 G') ∧ Aside0 (Only b W wr) ∧ Aside0 (∀ i, G'.getD i false = true ↔ G.getD i false = true ∨ ∃ h k, h < kk ∧ F.getD h false = true ∧ goes t m n h k ∧ i = off + k))
  case atStart => exact ⟨0, G, by omega, by omega, rfl, hG, HB0, ⟨Only.refl _ _⟩, ⟨fun i => ⟨Or.inl, fun h => h.elim id (fun ⟨h, k, h1, _⟩ => absurd h1 (by omega))⟩⟩⟩
  case round =>
    obtain ⟨kk, G', hkk, hg, rfl, hG', HR, HO, HI⟩ := hrel
    by_cases hlt : kk < 301
    · have hltz : (kk : Int) < 301 := by omega
      have hFk := bcells_get_lt F kk (by omega)
      have d4 := (HO.out.cell w.heap.size 1 hne0).trans c4.out
      have d5 := (HO.out.cell (w.heap.size + 1) 2 hne1).trans c5.out
      have d6 := (HO.out.cell (w.heap.size + 1) 3 hne1).trans c6.out
      cases hq : F.getD kk false with
      | false =>
        have hix := fun w => run_indexH .i64 F hF kk hlt w
        rw [hq] at hix
        have HQ := Aside0.mk hq
        clear hq hFk
        go_wp2
        go_roundg (301 - (kk + 1))
        case measure => omega
        case rel =>
          refine ⟨kk + 1, G', by omega, by omega, by go_num, hG', HR, HO, ⟨fun i => ?_⟩⟩
          rw [HI.out i]
          constructor
          · rintro (h | ⟨h, k, h1, h2⟩)
            · exact .inl h
            · exact .inr ⟨h, k, by omega, h2⟩
          · rintro (h | ⟨h, k, h1, h2, h3⟩)
            · exact .inl h
            · rcases Nat.lt_succ_iff_lt_or_eq.1 h1 with h1 | rfl
              · exact .inr ⟨h, k, h1, h2, h3⟩
              · rw [HQ.out] at h2
                cases h2
      | true =>
        have hix := fun w => run_indexH .i64 F hF kk hlt w
        rw [hq] at hix
        have HQ := Aside0.mk hq
        clear hq hFk
        go_wp2
        obtain ⟨wo, hwo⟩ : ∃ wo : World, wo = wr := ⟨_, rfl⟩
        subst hwo
        go_loopg [10] 341 (fun gg v10 wq => ∃ (x : Nat) (G2 : List Bool), (kk : Int) + m ≤ x ∧ x ≤ 341 ∧ 341 - x ≤ gg ∧ v10 = .int .i64 x ∧ G2.length = 2408 ∧ Aside0 (RowAt wq b 67 G2) ∧ Aside0 (Only b W wq) ∧ Aside0 (∀ i, G2.getD i false = true ↔ G'.getD i false = true ∨ ∃ k, k < x ∧ goes t m n kk k ∧ i = off + k))
        case atStart =>
          refine ⟨((kk : Int) + m).toNat, G', by omega, by omega, by omega, ?_, hG', HR, HO, ⟨fun i => ⟨Or.inl, fun h => h.elim id (fun ⟨k, h1, h2, _⟩ => ?_)⟩⟩⟩
          · congr 1
            omega
          · unfold goes at h2
            omega
        case round =>
          obtain ⟨x, G2, hx0, hx1, hg2, rfl, hG2, HR2, HO2, HI2⟩ := hrel
          have e4 := (HO2.out.cell w.heap.size 1 hne0).trans c4.out
          have e5 := (HO2.out.cell (w.heap.size + 1) 2 hne1).trans c5.out
          have e6 := (HO2.out.cell (w.heap.size + 1) 3 hne1).trans c6.out
          clear d4 d5 d6
          by_cases hin : (x : Int) ≤ kk + t + n ∧ x ≤ 300
          · obtain ⟨hin1, hin2⟩ := hin
            have hin3 : (x : Int) < 301 := by omega
            have hc := HR2.out.cell (off + x) (by omega)
            have hfz := HR2.out.frozen (off + x)
            have HI3 : Aside0 (∀ i, (G2.set (off + x) true).getD i false = true ↔ G'.getD i false = true ∨ ∃ k, k < x + 1 ∧ goes t m n kk k ∧ i = off + k) := ⟨fun i => by
              rw [set_true G2 (off + x) i (by omega), HI2.out i]
              constructor
              · rintro (h | h | ⟨k, h1, h2, h3⟩)
                · exact .inr ⟨x, by omega, ⟨by omega, by omega, by omega⟩, h⟩
                · exact .inl h
                · exact .inr ⟨k, by omega, h2, h3⟩
              · rintro (h | ⟨k, h1, h2, h3⟩)
                · exact .inr (.inl h)
                · rcases Nat.lt_succ_iff_lt_or_eq.1 h1 with h1 | rfl
                  · exact .inr (.inr ⟨k, h1, h2, h3⟩)
                  · exact .inl h3⟩
            go_wp2
            all_goals
              go_roundg (341 - (x + 1))
              case measure => omega
              case rel => exact ⟨x + 1, G2.set (off + x) true, by omega, by omega, by omega, by go_num, by rw [List.length_set]; exact hG2, ⟨HR2.out.set (off + x) true⟩, ⟨HO2.out.setCell (off + x) (.bool true)⟩, HI3⟩
          · have HI3 : Aside0 (∀ i, G2.getD i false = true ↔ G.getD i false = true ∨ ∃ h k, h < kk + 1 ∧ F.getD h false = true ∧ goes t m n h k ∧ i = off + k) := ⟨fun i => by
              rw [HI2.out i, HI.out i]
              constructor
              · rintro ((h | ⟨h, k, h1, h2⟩) | ⟨k, h1, h2, h3⟩)
                · exact .inl h
                · exact .inr ⟨h, k, by omega, h2⟩
                · exact .inr ⟨kk, k, by omega, HQ.out, h2, h3⟩
              · rintro (h | ⟨h, k, h1, h2, h3, h4⟩)
                · exact .inl (.inl h)
                · rcases Nat.lt_succ_iff_lt_or_eq.1 h1 with h1 | rfl
                  · exact .inl (.inr ⟨h, k, h1, h2, h3, h4⟩)
                  · refine .inr ⟨k, ?_, h3, h4⟩
                    unfold goes at h3
                    omega⟩
            clear HI HI2
            by_cases hx2 : (x : Int) ≤ kk + t + n
            · have hx3 : (300 : Int) < x := by omega
              go_wp2
              all_goals
                go_roundg (301 - (kk + 1))
                case measure => omega
                case rel => exact ⟨kk + 1, G2, by omega, by omega, by go_num, hG2, HR2, HO2, HI3⟩
            · have hx3 : (kk : Int) + t + n < x := by omega
              go_wp2
              all_goals
                go_roundg (301 - (kk + 1))
                case measure => omega
                case rel => exact ⟨kk + 1, G2, by omega, by omega, by go_num, hG2, HR2, HO2, HI3⟩
    · have hltz : ¬ (kk : Int) < 301 := by omega
      have hk : kk = 301 := by omega
      have HI3 : Aside0 (∀ i, G'.getD i false = true ↔ G.getD i false = true ∨ ∃ h k, h < 301 ∧ F.getD h false = true ∧ goes t m n h k ∧ i = off + k) := by rw [hk] at HI; exact HI
      clear HI hk
      go_wp2
      go_end0
      exact ⟨rfl, hB0.out.trans (HO.out.below (Nat.le_refl b)), G', hG', HR.out, HI3.out⟩
/-- A lane of a valid net. -/
def laneV (x : S44) : Prop := 0 ≤ x.f0 ∧ x.f0 < 8 ∧ 0 ≤ x.f1 ∧ x.f1 < 8 ∧ 1 ≤ x.f2 ∧ x.f2 ≤ 40 ∧ 0 ≤ x.f3 ∧ x.f3 ≤ 40
def gat (G : List Bool) (s h : Nat) : Bool := G.getD (s * 301 + h) false
/-- The times N are those behind one lane more, of times A. -/
def NextT (t : Int) (l : List S44) (A N : List Bool) : Prop := ∀ s h, s < 8 → h < 301 → (gat N s h = true ↔ ∃ x ∈ l, x.f1 = (s : Int) ∧ ∃ k, k < 301 ∧ gat A x.f0.toNat k = true ∧ goes t x.f2 x.f3 k h)
theorem goes_le {t m n : Int} {h k : Nat} (hg : goes t m n h k) : k ≤ 300 := hg.2.2
theorem next_snoc (t : Int) (ls : List S44) (A G G' : List Bool) (x : S44) (f g : Nat) (hf : x.f0 = (f : Int)) (hg : x.f1 = (g : Int)) (hN : NextT t ls A G) (hR : Rode t x.f2 x.f3 (g * 301) ((A.drop (f * 301)).take 301) G G') : NextT t (ls ++ [x]) A G' := by
  intro s h hs hh
  have h1 := hR (s * 301 + h)
  have h2 := hN s h hs hh
  unfold gat at h2 ⊢
  rw [h1, h2]
  constructor
  · rintro (⟨y, hy, h3⟩ | ⟨k, h', hk, hF, hgo, he⟩)
    · exact ⟨y, List.mem_append_left _ hy, h3⟩
    · rw [part_getD _ _ _ _ hk] at hF
      have := goes_le hgo
      have e1 : g = s := by omega
      have e2 : h' = h := by omega
      subst e1 e2
      exact ⟨x, List.mem_append_right _ List.mem_cons_self, hg, k, hk, by rw [hf]; exact hF, hgo⟩
  · rintro ⟨y, hy, h3, k, hk, h4, h5⟩
    rcases List.mem_append.1 hy with hy | hy
    · exact .inl ⟨y, hy, h3, k, hk, h4, h5⟩
    · obtain rfl := List.mem_singleton.1 hy
      refine .inr ⟨k, h, hk, ?_, h5, by omega⟩
      rw [part_getD _ _ _ _ hk]
      rw [hf] at h4
      exact h4
theorem wpList_loadHp {ops : Array Oper} {rest : List Oper} {o : Oper} {a : Act} {w : World} {Q : Exit → Act → World → Prop} (hgd : o.guard = none) (x : Operand) (ho : o.op = .load 65 x) (g off : Nat) (hx : a.eval x = .pointer (some ⟨g, off, none⟩)) (T' : TypeId) (G : List Bool) (hg : RowAt w g T' G) (hG : off + 301 ≤ G.length)
    (h : wpList Try.prog ops Q rest (a.put o.dst (.agg (bcells ((G.drop off).take 301)))) w) : wpList Try.prog ops Q (o :: rest) a w :=
  wpList_loadPart 65 301 _ Try.underlying65 rfl sizeH hgd x ho g off hx T' G hg hG h
set_option maxHeartbeats 2000000 in
set_option maxRecDepth 100000 in
theorem next_is (s t : Int) (A0 : Option Addr) (c : Nat) (l : List S44) (A : List Bool) (hA : A.length = 2408) (w : World) (hr : Kd.C k44 w A0 l.length l) (hc : l.length ≤ c) (hl : ∀ x ∈ l, laneV x) (ht0 : 0 ≤ t) (ht1 : t ≤ 40) :
    Calls Try.prog 69 #[.agg #[.int .i8 s, .int .i16 t, .slice A0 l.length c], .agg (bcells A)] w fun e w' =>
      ∃ N : List Bool, N.length = 2408 ∧ NextT t l A N ∧ e = .returned (.agg (bcells N)) ∧ Below w.heap.size w w' := by
  have HR := Aside0.mk hr
  have HL := Aside0.mk hl
  have hbig : l.length ≤ 9223372036854775807 := hr.2.1
  clear hr hl
  go_enter Try.func69, Try.ntmps69
  go_wp2
  rw [run_storeRow _ _ 67 noTimes noTimes (row_at _ _ _ _ (by simp)) rfl]
  go_wp2
  have hB0 : Aside0 (Below w.heap.size w ((((w.alloc (.cells #[.int .i8 s, .int .i16 t, .slice A0 l.length c] 28)).alloc (.cells (bcells A) 67)).alloc (.cells (bcells noTimes) 67)).alloc (.cells (bcells noTimes) 67))) := ⟨((((Below.refl _ _).alloc (Nat.le_refl _) _).alloc (by simp) _).alloc (by simp; omega) _).alloc (by simp; omega) _⟩
  have R3 : Aside0 (RowAt ((((w.alloc (.cells #[.int .i8 s, .int .i16 t, .slice A0 l.length c] 28)).alloc (.cells (bcells A) 67)).alloc (.cells (bcells noTimes) 67)).alloc (.cells (bcells noTimes) 67)) (w.heap.size + 1 + 1 + 1) 67 noTimes) := ⟨RowAt.new _ _ (by simp) _ _⟩
  have R1 : Aside0 (RowAt ((((w.alloc (.cells #[.int .i8 s, .int .i16 t, .slice A0 l.length c] 28)).alloc (.cells (bcells A) 67)).alloc (.cells (bcells noTimes) 67)).alloc (.cells (bcells noTimes) 67)) (w.heap.size + 1) 67 A) := ⟨((RowAt.new _ _ (by simp) _ _).alloc _).alloc _⟩
  have R2 : Aside0 (RowAt ((((w.alloc (.cells #[.int .i8 s, .int .i16 t, .slice A0 l.length c] 28)).alloc (.cells (bcells A) 67)).alloc (.cells (bcells noTimes) 67)).alloc (.cells (bcells noTimes) 67)) (w.heap.size + 1 + 1) 67 noTimes) := ⟨(RowAt.new _ _ (by simp) _ _).alloc _⟩
  have c0 : Aside0 (((((w.alloc (.cells #[.int .i8 s, .int .i16 t, .slice A0 l.length c] 28)).alloc (.cells (bcells A) 67)).alloc (.cells (bcells noTimes) 67)).alloc (.cells (bcells noTimes) 67)).cell? ⟨w.heap.size, 0, none⟩ = some (.int .i8 s)) := ⟨by go_simp⟩
  have c1 : Aside0 (((((w.alloc (.cells #[.int .i8 s, .int .i16 t, .slice A0 l.length c] 28)).alloc (.cells (bcells A) 67)).alloc (.cells (bcells noTimes) 67)).alloc (.cells (bcells noTimes) 67)).cell? ⟨w.heap.size, 1, none⟩ = some (.int .i16 t)) := ⟨by go_simp⟩
  have c2 : Aside0 (((((w.alloc (.cells #[.int .i8 s, .int .i16 t, .slice A0 l.length c] 28)).alloc (.cells (bcells A) 67)).alloc (.cells (bcells noTimes) 67)).alloc (.cells (bcells noTimes) 67)).cell? ⟨w.heap.size, 2, none⟩ = some (.slice A0 l.length c)) := ⟨by go_simp⟩
  have hWz : Aside0 (((((w.alloc (.cells #[.int .i8 s, .int .i16 t, .slice A0 l.length c] 28)).alloc (.cells (bcells A) 67)).alloc (.cells (bcells noTimes) 67)).alloc (.cells (bcells noTimes) 67)).heap.size = w.heap.size + 1 + 1 + 1 + 1) := ⟨by simp⟩
  generalize (((w.alloc (.cells #[.int .i8 s, .int .i16 t, .slice A0 l.length c] 28)).alloc (.cells (bcells A) 67)).alloc (.cells (bcells noTimes) 67)).alloc (.cells (bcells noTimes) 67) = W at *
  go_loopg [12] l.length (fun gg v12 wr => ∃ (kk : Nat) (G : List Bool), kk ≤ l.length ∧ l.length - kk ≤ gg ∧ v12 = .int .i64 kk ∧ G.length = 2408 ∧ Aside0 (RowAt wr (w.heap.size + 1 + 1 + 1) 67 G) ∧ Aside0 (Below (w.heap.size + 1 + 1 + 1) W wr) ∧ Aside0 (NextT t (l.take kk) A G))
  case atStart =>
    refine ⟨0, noTimes, Nat.zero_le _, by omega, rfl, noTimes_length, R3, ⟨Below.refl _ _⟩, ⟨fun s' h' hs' hh' => ?_⟩⟩
    unfold gat
    rw [noTimes_get]
    simp
  case round =>
    obtain ⟨kk, G, hkk, hg, rfl, hG, HG, BW, HN⟩ := hrel
    have BW0 : Aside0 (Below w.heap.size w wr) := ⟨hB0.out.trans (BW.out.mono (by omega))⟩
    have d0 := (BW.out.cell (p := ⟨w.heap.size, 0, none⟩) (by simp; omega)).trans c0.out
    have d1 := (BW.out.cell (p := ⟨w.heap.size, 1, none⟩) (by simp; omega)).trans c1.out
    have d2 := (BW.out.cell (p := ⟨w.heap.size, 2, none⟩) (by simp; omega)).trans c2.out
    have hwr : w.heap.size + 1 + 1 + 1 + 1 ≤ wr.heap.size := by rw [← hWz.out]; exact BW.out.size
    have hlt0 : w.heap.size < wr.heap.size := by omega
    have RA : Aside0 (RowAt wr (w.heap.size + 1) 67 A) := ⟨R1.out.below BW.out (by omega)⟩
    by_cases hlt : kk < l.length
    · have hltz : (kk : Int) < (l.length : Int) := by omega
      obtain ⟨ad, e, hx0, hx1, hx2, hx3⟩ := at_T44 (Kd.C_below HR.out BW0.out) (kk : Int) (by omega) hltz
      have hy := HL.out (l.getD kk z44) (by rw [List.getD_eq_getElem?_getD, List.getElem?_eq_getElem hlt]; exact List.getElem_mem hlt)
      have htk := take_snoc' l z44 kk hlt
      simp only [rd_T44, Int.toNat_natCast] at hx0 hx1 hx2 hx3
      subst e
      generalize l.getD kk z44 = y at hx0 hx1 hx2 hx3 hy htk
      have HTK := Aside0.mk htk
      obtain ⟨f, g, m, n⟩ := y
      obtain ⟨f1, f2, g1, g2, m1, m2, n1, n2⟩ := hy
      simp only at f1 f2 g1 g2 m1 m2 n1 n2 hx0 hx1 hx2 hx3
      obtain ⟨f, rfl⟩ := Int.eq_ofNat_of_zero_le f1
      obtain ⟨g, rfl⟩ := Int.eq_ofNat_of_zero_le g1
      clear htk
      go_wp2
      refine wp_region_still_tail 9 (by kernel_rfl) (by kernel_rfl) ?_
      simp only [List.take_succ_cons, List.take_zero, List.drop_succ_cons, List.drop_zero]
      change wpStill _ _ (World.drew (wr.alloc (.cells #[.int .i8 (f : Int), .int .i8 (g : Int), .int .i16 m, .int .i16 n] 44))) (fun a' => wpList _ _ _ _ a' (World.drew (wr.alloc (.cells #[.int .i8 (f : Int), .int .i8 (g : Int), .int .i16 m, .int .i16 n] 44)))) _ _
      have BW2 : Aside0 (Below (w.heap.size + 1 + 1 + 1) W (World.drew (wr.alloc (.cells #[.int .i8 (f : Int), .int .i8 (g : Int), .int .i16 m, .int .i16 n] 44)))) := ⟨(BW.out.alloc (by omega) _).drew⟩
      have RA2 : Aside0 (RowAt (World.drew (wr.alloc (.cells #[.int .i8 (f : Int), .int .i8 (g : Int), .int .i16 m, .int .i16 n] 44))) (w.heap.size + 1) 67 A) := ⟨(RA.out.alloc _).drew⟩
      have HG2 : Aside0 (RowAt (World.drew (wr.alloc (.cells #[.int .i8 (f : Int), .int .i8 (g : Int), .int .i16 m, .int .i16 n] 44))) (w.heap.size + 1 + 1 + 1) 67 G) := ⟨(HG.out.alloc _).drew⟩
      have q0 : (World.drew (wr.alloc (.cells #[.int .i8 (f : Int), .int .i8 (g : Int), .int .i16 m, .int .i16 n] 44))).cell? ⟨w.heap.size, 0, none⟩ = some (.int .i8 s) := by go_simp
      have q1 : (World.drew (wr.alloc (.cells #[.int .i8 (f : Int), .int .i8 (g : Int), .int .i16 m, .int .i16 n] 44))).cell? ⟨w.heap.size, 1, none⟩ = some (.int .i16 t) := by go_simp
      have q2 : (World.drew (wr.alloc (.cells #[.int .i8 (f : Int), .int .i8 (g : Int), .int .i16 m, .int .i16 n] 44))).cell? ⟨w.heap.size, 2, none⟩ = some (.slice (some ad) l.length c) := by go_simp
      have q3 : (World.drew (wr.alloc (.cells #[.int .i8 (f : Int), .int .i8 (g : Int), .int .i16 m, .int .i16 n] 44))).cell? ⟨wr.heap.size, 0, none⟩ = some (.int .i8 (f : Int)) := by go_simp
      have q4 : (World.drew (wr.alloc (.cells #[.int .i8 (f : Int), .int .i8 (g : Int), .int .i16 m, .int .i16 n] 44))).cell? ⟨wr.heap.size, 1, none⟩ = some (.int .i8 (g : Int)) := by go_simp
      have q5 : (World.drew (wr.alloc (.cells #[.int .i8 (f : Int), .int .i8 (g : Int), .int .i16 m, .int .i16 n] 44))).cell? ⟨wr.heap.size, 2, none⟩ = some (.int .i16 m) := by go_simp
      have q6 : (World.drew (wr.alloc (.cells #[.int .i8 (f : Int), .int .i8 (g : Int), .int .i16 m, .int .i16 n] 44))).cell? ⟨wr.heap.size, 3, none⟩ = some (.int .i16 n) := by go_simp
      generalize World.drew (wr.alloc (.cells #[.int .i8 (f : Int), .int .i8 (g : Int), .int .i16 m, .int .i16 n] 44)) = w2 at *
      clear d0 d1 d2 hx0 hx1 hx2 hx3
      iterate 5 still_step
      refine wpStill_loadPart 65 301 _ Try.underlying65 rfl sizeH rfl (.tmp 20) rfl (w.heap.size + 1) (f * 301) rfl _ A RA2.out (by omega) ?_
      iterate 3 still_step
      refine wpStill_nil ?_
      go_wp2_with fail
      refine (ride_is s t f g m n _ _ (part_length A _ _ (by omega)) (w.heap.size + 1 + 1 + 1) (g * 301) G hG (by omega) w2 HG2.out ht0 ht1 m1 m2 n1 n2).mono ?_
      rintro e w3 ⟨rfl, hb3, G3, hG3, hR3, hRode⟩
      have BW3 : Aside0 (Below (w.heap.size + 1 + 1 + 1) W w3) := ⟨BW2.out.trans hb3⟩
      have HG3 := Aside0.mk hR3
      have HN3 : Aside0 (NextT t (l.take (kk + 1)) A G3) := ⟨by rw [HTK.out]; exact next_snoc t _ A G G3 ⟨f, g, m, n⟩ f g rfl rfl HN.out hRode⟩
      clear hb3 hR3 hRode q0 q1 q2 q3 q4 q5 q6
      go_wp2
      go_roundg (l.length - (kk + 1))
      case measure => omega
      case rel => exact ⟨kk + 1, G3, by omega, by omega, by go_num, hG3, HG3, BW3, HN3⟩
    · have hltz : ¬ (kk : Int) < (l.length : Int) := by omega
      have hk : kk = l.length := by omega
      have HN3 : Aside0 (NextT t l A G) := ⟨by have := HN.out; rw [hk, List.take_length] at this; exact this⟩
      have R2' : Aside0 (RowAt wr (w.heap.size + 1 + 1) 67 noTimes) := ⟨R2.out.below BW.out (by omega)⟩
      clear hk HN
      go_wp2_with (refine wpList_loadT rfl (.tmp 5) rfl _ rfl _ _ HG.out hG ?_)
      rw [run_storeRow wr (w.heap.size + 1 + 1) 67 noTimes _ R2'.out.out (by rw [noTimes_length, hG])]
      have H4 := Aside0.mk (R2'.out.row G)
      have hB2 := Aside0.mk (below_setRow BW0.out (show w.heap.size ≤ w.heap.size + 1 + 1 by omega) (bcells G))
      clear R2' HG BW BW0 d0 d1 d2 RA
      generalize wr.setRow (w.heap.size + 1 + 1) (bcells G) = W2 at *
      go_wp2
      exact bodyPost_ret_by (results_cell_row (p := 4) (ty := 67) rfl _ _ (w.heap.size + 1 + 1) 67 (bcells G) (0, 0) _ rfl H4.out.out Try.underlying67 rfl (by rw [sizeT, bcells_size, hG])) rfl ⟨G, hG, HN3.out, rfl, hB2.out⟩
end Go.Proofs.Yticfecncdpdanaa.Q
/- Which arrivals there are (behind one or more lanes), and that looking round by round finds them all. -/
set_option linter.unusedVariables false
namespace Go.Proofs.Yticfecncdpdanaa.Q
/-- An arrival behind one or more lanes, from a station and an hour. -/
inductive Arr (t : Int) (l : List S44) (a0 h0 : Nat) : Nat → Nat → Prop
  | first (x : S44) (hx : x ∈ l) (k : Nat) (hf : x.f0.toNat = a0) (hg : goes t x.f2 x.f3 h0 k) : Arr t l a0 h0 x.f1.toNat k
  | more (x : S44) (hx : x ∈ l) (k k' : Nat) (hp : Arr t l a0 h0 x.f0.toNat k) (hg : goes t x.f2 x.f3 k k') : Arr t l a0 h0 x.f1.toNat k'
/-- Times that are just these arrivals. -/
def ArrT (t : Int) (l : List S44) (a0 h0 : Nat) (N : List Bool) : Prop := ∀ s h, s < 8 → h < 301 → (gat N s h = true ↔ Arr t l a0 h0 s h)
theorem Arr.step {t : Int} {l : List S44} {a0 h0 : Nat} {s h : Nat} {x : S44} (hx : x ∈ l) (hv : laneV x) (hsrc : (s = a0 ∧ h = h0) ∨ Arr t l a0 h0 s h) (hf : x.f0 = (s : Int)) {k : Nat} (hg : goes t x.f2 x.f3 h k) {q : Nat} (hq : x.f1 = (q : Int)) : Arr t l a0 h0 q k := by
  have e1 : x.f1.toNat = q := by omega
  have e0 : x.f0.toNat = s := by omega
  rw [← e1]
  rcases hsrc with ⟨rfl, rfl⟩ | hsrc
  · exact .first x hx k e0 hg
  · exact .more x hx h k (by rw [e0]; exact hsrc) hg
/-- What is known ahead of each round: O: all that has been found; A: what is new. -/
structure Bfs (t : Int) (l : List S44) (a0 h0 : Nat) (O A : List Bool) : Prop where
  lenO : O.length = 2408
  lenA : A.length = 2408
  found : ∀ s h, s < 8 → h < 301 → gat O s h = true → Arr t l a0 h0 s h
  new : ∀ s h, s < 8 → h < 301 → gat A s h = true → (s = a0 ∧ h = h0) ∨ Arr t l a0 h0 s h
  closed : ∀ s h, s < 8 → h < 301 → ((s = a0 ∧ h = h0) ∨ gat O s h = true) → gat A s h = true ∨ ∀ x ∈ l, x.f0 = (s : Int) → ∀ k, goes t x.f2 x.f3 h k → gat O x.f1.toNat k = true
/-- O and what N has besides; what N has and O has not. -/
def joinTo (p : Nat) (O N O' : List Bool) : Prop := ∀ i, i < 2408 → O'.getD i false = (O.getD i false || (decide (i < p) && N.getD i false))
def freshTo (p : Nat) (O N F : List Bool) : Prop := ∀ i, i < 2408 → F.getD i false = (decide (i < p) && (N.getD i false && !O.getD i false))
theorem join_start (O N : List Bool) : joinTo 0 O N O ∧ freshTo 0 O N noTimes := by
  refine ⟨fun i hi => by simp, fun i hi => ?_⟩
  rw [noTimes_get]
  simp
theorem set_getD (G : List Bool) (j i : Nat) (hj : j < G.length) (b : Bool) : (G.set j b).getD i false = if i = j then b else G.getD i false := by
  simp only [List.getD_eq_getElem?_getD]
  by_cases h : i = j
  · subst h
    rw [List.getElem?_set_self hj]
    simp
  · rw [List.getElem?_set_ne (Ne.symm h), if_neg h]
theorem join_keep {p : Nat} {O N O2 F2 : List Bool} (hp : p < 2408) (h : N.getD p false = false ∨ O2.getD p false = true) (hO : joinTo p O N O2) (hF : freshTo p O N F2) : joinTo (p + 1) O N O2 ∧ freshTo (p + 1) O N F2 := by
  have e := hO p hp
  rw [decide_eq_false (by omega), Bool.false_and, Bool.or_false] at e
  refine ⟨fun i hi => ?_, fun i hi => ?_⟩
  · rw [hO i hi]
    by_cases hip : i = p
    · subst hip
      rw [decide_eq_false (by omega : ¬ i < i), decide_eq_true (by omega : i < i + 1)]
      rcases h with h | h
      · rw [h]
        simp
      · rw [e] at h
        rw [h]
        simp
    · rw [show decide (i < p + 1) = decide (i < p) by congr 1; simp only [eq_iff_iff]; omega]
  · rw [hF i hi]
    by_cases hip : i = p
    · subst hip
      rw [decide_eq_false (by omega : ¬ i < i), decide_eq_true (by omega : i < i + 1)]
      rcases h with h | h
      · rw [h]
        simp
      · rw [e] at h
        rw [h]
        simp
    · rw [show decide (i < p + 1) = decide (i < p) by congr 1; simp only [eq_iff_iff]; omega]
theorem join_set {p : Nat} {O N O2 F2 : List Bool} (hp : p < 2408) (h1 : N.getD p false = true) (h2 : O2.getD p false = false) (lO : O2.length = 2408) (lF : F2.length = 2408) (hO : joinTo p O N O2) (hF : freshTo p O N F2) :
    joinTo (p + 1) O N (O2.set p true) ∧ freshTo (p + 1) O N (F2.set p true) := by
  have e := hO p hp
  rw [decide_eq_false (by omega), Bool.false_and, Bool.or_false, h2] at e
  refine ⟨fun i hi => ?_, fun i hi => ?_⟩
  · rw [set_getD _ _ _ (by omega)]
    by_cases hip : i = p
    · subst hip
      rw [if_pos rfl, decide_eq_true (by omega : i < i + 1), h1]
      simp
    · rw [if_neg hip, hO i hi, show decide (i < p + 1) = decide (i < p) by congr 1; simp only [eq_iff_iff]; omega]
  · rw [set_getD _ _ _ (by omega)]
    by_cases hip : i = p
    · subst hip
      rw [if_pos rfl, decide_eq_true (by omega : i < i + 1), h1, ← e]
      rfl
    · rw [if_neg hip, hF i hi, show decide (i < p + 1) = decide (i < p) by congr 1; simp only [eq_iff_iff]; omega]
theorem Bfs.start (t : Int) (l : List S44) (a0 h0 : Nat) (ha : a0 < 8) (hh : h0 < 301) : Bfs t l a0 h0 noTimes (noTimes.set (a0 * 301 + h0) true) := by
  refine ⟨noTimes_length, by rw [List.length_set, noTimes_length], fun s h hs hh' h1 => ?_, fun s h hs hh' h1 => ?_, fun s h hs hh' h1 => ?_⟩
  · unfold gat at h1
    rw [noTimes_get] at h1
    cases h1
  · unfold gat at h1
    rw [set_true _ _ _ (by rw [noTimes_length]; omega), noTimes_get] at h1
    rcases h1 with h1 | h1
    · exact .inl ⟨by omega, by omega⟩
    · cases h1
  · rcases h1 with ⟨rfl, rfl⟩ | h1
    · left
      unfold gat
      rw [set_true _ _ _ (by rw [noTimes_length]; omega)]
      exact .inl rfl
    · unfold gat at h1
      rw [noTimes_get] at h1
      cases h1
theorem Bfs.round {t : Int} {l : List S44} {a0 h0 : Nat} {O A N O' F : List Bool} (hl : ∀ x ∈ l, laneV x) (h : Bfs t l a0 h0 O A) (hN : NextT t l A N) (hO : joinTo 2408 O N O') (hF : freshTo 2408 O N F) (hO' : O'.length = 2408) (hF' : F.length = 2408) :
    Bfs t l a0 h0 O' F := by
  have gO : ∀ s h, s < 8 → h < 301 → gat O' s h = (gat O s h || gat N s h) := by
    intro s h hs hh
    unfold gat
    rw [hO _ (by omega), decide_eq_true (by omega : s * 301 + h < 2408), Bool.true_and]
  have gF : ∀ s h, s < 8 → h < 301 → gat F s h = (gat N s h && !gat O s h) := by
    intro s h hs hh
    unfold gat
    rw [hF _ (by omega), decide_eq_true (by omega : s * 301 + h < 2408), Bool.true_and]
  have gN : ∀ s h, s < 8 → h < 301 → gat N s h = true → Arr t l a0 h0 s h := by
    intro s k hs hk h1
    obtain ⟨x, hx, hx1, j, hj, h2, h3⟩ := (hN s k hs hk).1 h1
    have hv := hl x hx
    obtain ⟨v0, v1, v2, v3, _⟩ := hv
    exact Arr.step hx (hl x hx) (h.new x.f0.toNat j (by omega) hj h2) (by omega) h3 hx1
  refine ⟨hO', hF', fun s k hs hk h1 => ?_, fun s k hs hk h1 => ?_, fun s k hs hk h1 => ?_⟩
  · rw [gO s k hs hk, Bool.or_eq_true] at h1
    rcases h1 with h1 | h1
    · exact h.found s k hs hk h1
    · exact gN s k hs hk h1
  · rw [gF s k hs hk, Bool.and_eq_true] at h1
    exact .inr (gN s k hs hk h1.1)
  · have old : ((s = a0 ∧ k = h0) ∨ gat O s k = true) → gat F s k = true ∨ ∀ x ∈ l, x.f0 = (s : Int) → ∀ j, goes t x.f2 x.f3 k j → gat O' x.f1.toNat j = true := by
      intro h2
      right
      intro x hx hf j hg
      have hj := goes_le hg
      have hv := hl x hx
      obtain ⟨v0, v1, v2, v3, _⟩ := hv
      rw [gO _ _ (by omega) (by omega), Bool.or_eq_true]
      rcases h.closed s k hs hk h2 with h3 | h3
      · right
        rw [hN _ _ (by omega) (by omega)]
        exact ⟨x, hx, by omega, k, hk, by rw [hf]; exact h3, hg⟩
      · exact .inl (h3 x hx hf j hg)
    rcases h1 with h1 | h1
    · exact old (.inl h1)
    · rw [gO s k hs hk, Bool.or_eq_true] at h1
      cases hq : gat O s k with
      | true => exact old (.inr hq)
      | false =>
        left
        rw [gF s k hs hk, hq]
        rcases h1 with h1 | h1
        · rw [hq] at h1
          cases h1
        · rw [h1]
          rfl
theorem Bfs.done {t : Int} {l : List S44} {a0 h0 : Nat} {O : List Bool} (hl : ∀ x ∈ l, laneV x) (h : Bfs t l a0 h0 O noTimes) (ha : a0 < 8) (hh : h0 < 301) : ArrT t l a0 h0 O := by
  intro s k hs hk
  refine ⟨h.found s k hs hk, fun h1 => ?_⟩
  have no : ∀ s k, gat noTimes s k ≠ true := by
    intro s k
    unfold gat
    rw [noTimes_get]
    simp
  clear hs hk
  have key : ∀ s k, Arr t l a0 h0 s k → gat O s k = true := by
    intro s k h1
    induction h1 with
    | first x hx k hf hg =>
      have hv := hl x hx
      obtain ⟨v0, v1, v2, v3, _⟩ := hv
      exact ((h.closed a0 h0 ha hh (.inl ⟨rfl, rfl⟩)).resolve_left (no _ _)) x hx (by omega) k hg
    | more x hx k k' hp hg ih =>
      have hv := hl x hx
      obtain ⟨v0, v1, v2, v3, v4, _⟩ := hv
      have hk' := goes_le hg
      have hkk : k ≤ k' := by
        unfold goes at hg
        omega
      exact ((h.closed x.f0.toNat k (by omega) (by omega) (.inr ih)).resolve_left (no _ _)) x hx (by omega) k' hg
  exact key s k h1
/-- How much is not yet found. -/
def lack (O A : List Bool) : Nat := 2 * O.count false + (if A = noTimes then 0 else 1)
theorem ext_times {F G : List Bool} (hF : F.length = 2408) (hG : G.length = 2408) (h : ∀ i, i < 2408 → F.getD i false = G.getD i false) : F = G := by
  apply List.ext_getElem (by omega)
  intro i h1 h2
  have := h i (by omega)
  simp only [List.getD_eq_getElem?_getD, List.getElem?_eq_getElem h1, List.getElem?_eq_getElem h2, Option.getD_some] at this
  exact this
theorem count_le : ∀ (O O' : List Bool), O.length = O'.length → (∀ i, O.getD i false = true → O'.getD i false = true) → O'.count false ≤ O.count false
  | [], [], _, _ => Nat.le_refl _
  | x :: O, y :: O', hl, h => by
    have ih := count_le O O' (by simpa using hl) (fun i hi => by have := h (i + 1); simpa using this (by simpa using hi))
    have h0 := h 0
    rw [List.count_cons, List.count_cons]
    cases x <;> cases y <;> simp at h0 ⊢ <;> omega
  | [], _ :: _, hl, _ => by simp at hl
  | _ :: _, [], hl, _ => by simp at hl
theorem count_lt : ∀ (O O' : List Bool), O.length = O'.length → (∀ i, O.getD i false = true → O'.getD i false = true) → ∀ j, O.getD j false = false → O'.getD j false = true → O'.count false < O.count false
  | [], [], _, _, j, _, h2 => by simp at h2
  | x :: O, y :: O', hl, h, j, h1, h2 => by
    have hl' : O.length = O'.length := by simpa using hl
    have hr : ∀ i, O.getD i false = true → O'.getD i false = true := fun i hi => by have := h (i + 1); simpa using this (by simpa using hi)
    have ih := count_le O O' hl' hr
    have h0 := h 0
    rw [List.count_cons, List.count_cons]
    cases j with
    | zero =>
      simp at h1 h2
      subst h1 h2
      simp
      omega
    | succ j =>
      have ih2 := count_lt O O' hl' hr j (by simpa using h1) (by simpa using h2)
      cases x <;> cases y <;> simp at h0 ⊢ <;> omega
  | [], _ :: _, hl, _, _, _, _ => by simp at hl
  | _ :: _, [], hl, _, _, _, _ => by simp at hl
theorem lack_lt {O A N O' F : List Bool} (lO : O.length = 2408) (lO' : O'.length = 2408) (lF : F.length = 2408) (hO : joinTo 2408 O N O') (hF : freshTo 2408 O N F) (hA : A ≠ noTimes) : lack O' F < lack O A := by
  have mono : ∀ i, O.getD i false = true → O'.getD i false = true := by
    intro i hi
    have hi' : i < 2408 := by
      rcases Nat.lt_or_ge i 2408 with h | h
      · exact h
      · rw [List.getD_eq_getElem?_getD, List.getElem?_eq_none (by omega)] at hi
        cases hi
    rw [hO i hi', hi]
    rfl
  unfold lack
  rw [if_neg hA]
  by_cases h : F = noTimes
  · rw [if_pos h]
    have := count_le O O' (by omega) mono
    omega
  · rw [if_neg h]
    have : ∃ j, j < 2408 ∧ F.getD j false = true := by
      apply Classical.byContradiction
      intro hn
      apply h
      apply ext_times lF noTimes_length
      intro i hi
      rw [noTimes_get]
      cases hq : F.getD i false with
      | false => rfl
      | true => exact absurd ⟨i, hi, hq⟩ hn
    obtain ⟨j, hj, hq⟩ := this
    rw [hF j hj, decide_eq_true hj, Bool.true_and, Bool.and_eq_true, Bool.not_eq_true'] at hq
    have := count_lt O O' (by omega) mono j hq.2 (by rw [hO j hj, decide_eq_true hj, hq.1]; simp)
    omega
end Go.Proofs.Yticfecncdpdanaa.Q
/- impl's all: all times behind one or more lanes. -/
set_option linter.unusedVariables false
set_option linter.unusedSimpArgs false
namespace Go.Proofs.Yticfecncdpdanaa.Q
open Go.RowKit Go.Proofs.YticfecncdpdanaaW.PrintWords Go.Proofs.YticfecncdpdanaaW.PrintLast Go.Proofs.YticfecncdpdanaaW.PrintMore

attribute [local go_sem] zcT zcH noHours_length setRow_alloc_at setRow_alloc_past bcells_set bcells_size noTimes_length List.length_set
set_option maxHeartbeats 4000000 in
set_option maxRecDepth 100000 in
theorem all_is (s t : Int) (A0 : Option Addr) (c : Nat) (l : List S44) (a0 h0 : Nat) (w : World) (hr : Kd.C k44 w A0 l.length l) (hc : l.length ≤ c) (hl : ∀ x ∈ l, laneV x) (ht0 : 0 ≤ t) (ht1 : t ≤ 40) (ha : a0 < 8) (hh : h0 < 301) :
    Calls Try.prog 34 #[.agg #[.int .i8 s, .int .i16 t, .slice A0 l.length c], .agg #[.int .i8 a0, .int .i16 h0]] w fun e w' =>
      ∃ N : List Bool, N.length = 2408 ∧ ArrT t l a0 h0 N ∧ e = .returned (.agg (bcells N)) ∧ Below w.heap.size w w' := by
  have HR := Aside0.mk hr
  have HL := Aside0.mk hl
  clear hr hl
  go_enter Try.func34, Try.ntmps34
  go_wp2_with fail
  have hB0 : Aside0 (Below w.heap.size w (((w.alloc (.cells #[.int .i8 s, .int .i16 t, .slice A0 l.length c] 28)).alloc (.cells #[.int .i8 a0, .int .i16 h0] 31)).alloc (.cells (bcells noTimes) 67))) := ⟨(((Below.refl _ _).alloc (Nat.le_refl _) _).alloc (by simp) _).alloc (by simp; omega) _⟩
  have R4 : Aside0 (RowAt (((w.alloc (.cells #[.int .i8 s, .int .i16 t, .slice A0 l.length c] 28)).alloc (.cells #[.int .i8 a0, .int .i16 h0] 31)).alloc (.cells (bcells noTimes) 67)) (w.heap.size + 1 + 1) 67 noTimes) := ⟨RowAt.new _ _ (by simp) _ _⟩
  have c0 : Aside0 ((((w.alloc (.cells #[.int .i8 s, .int .i16 t, .slice A0 l.length c] 28)).alloc (.cells #[.int .i8 a0, .int .i16 h0] 31)).alloc (.cells (bcells noTimes) 67)).cell? ⟨w.heap.size, 0, none⟩ = some (.int .i8 s)) := ⟨by go_simp⟩
  have c1 : Aside0 ((((w.alloc (.cells #[.int .i8 s, .int .i16 t, .slice A0 l.length c] 28)).alloc (.cells #[.int .i8 a0, .int .i16 h0] 31)).alloc (.cells (bcells noTimes) 67)).cell? ⟨w.heap.size, 1, none⟩ = some (.int .i16 t)) := ⟨by go_simp⟩
  have c2 : Aside0 ((((w.alloc (.cells #[.int .i8 s, .int .i16 t, .slice A0 l.length c] 28)).alloc (.cells #[.int .i8 a0, .int .i16 h0] 31)).alloc (.cells (bcells noTimes) 67)).cell? ⟨w.heap.size, 2, none⟩ = some (.slice A0 l.length c)) := ⟨by go_simp⟩
  have hz : Aside0 ((((w.alloc (.cells #[.int .i8 s, .int .i16 t, .slice A0 l.length c] 28)).alloc (.cells #[.int .i8 a0, .int .i16 h0] 31)).alloc (.cells (bcells noTimes) 67)).heap.size = w.heap.size + 1 + 1 + 1) := ⟨by simp⟩
  generalize ((w.alloc (.cells #[.int .i8 s, .int .i16 t, .slice A0 l.length c] 28)).alloc (.cells #[.int .i8 a0, .int .i16 h0] 31)).alloc (.cells (bcells noTimes) 67) = V at *
  refine (begin_is a0 h0 V ha hh).mono ?_
  rintro e w1 ⟨rfl, hb1⟩
  have HB1 := Aside0.mk hb1
  have hzw : w.heap.size + 1 + 1 + 1 ≤ w1.heap.size := by rw [← hz.out]; exact hb1.size
  clear hb1
  go_wp2
  rw [run_storeRow _ w1.heap.size 67 noTimes noTimes ((row_past _ _ _ (by simp)).trans (row_at _ _ _ _ rfl)) rfl]
  go_wp2
  rw [run_storeRow _ (w1.heap.size + 1) 67 noTimes _ (row_at _ _ _ _ (by simp)) (by rw [List.length_set])]
  go_wp2
  have hB2 : Aside0 (Below w.heap.size w ((w1.alloc (.cells (bcells noTimes) 67)).alloc (.cells (bcells (noTimes.set (a0 * 301 + h0) true)) 67))) := ⟨((hB0.out.trans (HB1.out.mono (by have := hz.out; omega))).alloc (by omega) _).alloc (by simp; omega) _⟩
  have RO : Aside0 (RowAt ((w1.alloc (.cells (bcells noTimes) 67)).alloc (.cells (bcells (noTimes.set (a0 * 301 + h0) true)) 67)) w1.heap.size 67 noTimes) := ⟨(RowAt.new _ _ rfl _ _).alloc _⟩
  have RA : Aside0 (RowAt ((w1.alloc (.cells (bcells noTimes) 67)).alloc (.cells (bcells (noTimes.set (a0 * 301 + h0) true)) 67)) (w1.heap.size + 1) 67 (noTimes.set (a0 * 301 + h0) true)) := ⟨RowAt.new _ _ (by simp) _ _⟩
  have HV : Aside0 (Below V.heap.size V ((w1.alloc (.cells (bcells noTimes) 67)).alloc (.cells (bcells (noTimes.set (a0 * 301 + h0) true)) 67))) := ⟨(HB1.out.alloc HB1.out.size _).alloc (by simp; have := HB1.out.size; omega) _⟩
  have hzP : Aside0 (((w1.alloc (.cells (bcells noTimes) 67)).alloc (.cells (bcells (noTimes.set (a0 * 301 + h0) true)) 67)).heap.size = w1.heap.size + 1 + 1) := ⟨by simp⟩
  generalize (w1.alloc (.cells (bcells noTimes) 67)).alloc (.cells (bcells (noTimes.set (a0 * 301 + h0) true)) 67) = W at *
  go_loopg [] (lack noTimes (noTimes.set (a0 * 301 + h0) true)) (fun gg wr => ∃ (O A : List Bool), lack O A ≤ gg ∧ Aside0 (Bfs t l a0 h0 O A) ∧ Aside0 (RowAt wr w1.heap.size 67 O) ∧ Aside0 (RowAt wr (w1.heap.size + 1) 67 A) ∧ Aside0 (Below w1.heap.size W wr))
  case atStart => exact ⟨_, _, Nat.le_refl _, ⟨Bfs.start t l a0 h0 ha hh⟩, RO, RA, ⟨Below.refl _ _⟩⟩
  case round =>
    obtain ⟨O, A, hg, HBf, HO, HA, BW⟩ := hrel
    have lO := HBf.out.lenO
    have lA := HBf.out.lenA
    have BW0 : Aside0 (Below w.heap.size w wr) := ⟨hB2.out.trans (BW.out.mono (by omega))⟩
    have hwr : w1.heap.size + 1 + 1 ≤ wr.heap.size := by rw [← hzP.out]; exact BW.out.size
    have BV : Aside0 (Below V.heap.size V wr) := ⟨HV.out.trans (BW.out.mono (by have := HB1.out.size; omega))⟩
    have hlt2 : w.heap.size < wr.heap.size := by omega
    have d0 := (BV.out.cell (p := ⟨w.heap.size, 0, none⟩) (by have := hz.out; simp; omega)).trans c0.out
    have d1 := (BV.out.cell (p := ⟨w.heap.size, 1, none⟩) (by have := hz.out; simp; omega)).trans c1.out
    have d2 := (BV.out.cell (p := ⟨w.heap.size, 2, none⟩) (by have := hz.out; simp; omega)).trans c2.out
    have heq : ∀ w, Sem.run Try.prog (Op.equalIn 10000 67 (.agg (bcells A)) (.agg (bcells noTimes))) w = .ok (decide (A = noTimes)) w := fun w => eq_arrivals 9997 A noTimes lA noTimes_length w
    by_cases hA : A = noTimes
    · rw [decide_eq_true hA] at heq
      have HD : Aside0 (ArrT t l a0 h0 O) := ⟨by have := HBf.out; rw [hA] at this; exact this.done HL.out ha hh⟩
      have R4' : Aside0 (RowAt wr (w.heap.size + 1 + 1) 67 noTimes) := ⟨R4.out.below BV.out (by have := hz.out; omega)⟩
      clear hA d0 d1 d2
      go_wp2_with (first | (refine wpList_loadT rfl (.tmp 6) rfl _ rfl _ _ HA.out lA ?_) | (refine wpList_loadT rfl (.tmp 5) rfl _ rfl _ _ HO.out lO ?_))
      rw [run_storeRow wr (w.heap.size + 1 + 1) 67 noTimes _ R4'.out.out (by rw [noTimes_length, lO])]
      have H4 := Aside0.mk (R4'.out.row O)
      have hB5 := Aside0.mk (below_setRow BW0.out (show w.heap.size ≤ w.heap.size + 1 + 1 by omega) (bcells O))
      clear R4' HO HA BW BW0 BV heq
      generalize wr.setRow (w.heap.size + 1 + 1) (bcells O) = W5 at *
      go_wp2
      exact bodyPost_ret_by (results_cell_row (p := 4) (ty := 67) rfl _ _ (w.heap.size + 1 + 1) 67 (bcells O) (0, 0) _ rfl H4.out.out Try.underlying67 rfl (by rw [sizeT, bcells_size, lO])) rfl ⟨O, lO, HD.out, rfl, hB5.out⟩
    · rw [decide_eq_false hA] at heq
      have HNE := Aside0.mk hA
      clear hA
      go_wp2_with (refine wpList_loadT rfl (.tmp 6) rfl _ rfl _ _ HA.out lA ?_)
      rw [run_storeRow _ wr.heap.size 67 noTimes noTimes (row_at _ _ _ _ rfl) rfl]
      go_wp2_with (refine wpList_loadT rfl (.tmp 6) rfl _ rfl _ _ (HA.out.alloc _) lA ?_)
      refine (next_is s t A0 c l A lA _ (Kd.C_alloc (Kd.C_below HR.out BW0.out) _) hc HL.out ht0 ht1).mono ?_
      rintro e w2 ⟨N, lN, hN, rfl, hb2⟩
      have HN := Aside0.mk hN
      have B2 : Aside0 (Below wr.heap.size wr w2) := ⟨below_call hb2⟩
      have RO2 : Aside0 (RowAt w2 w1.heap.size 67 O) := ⟨HO.out.below B2.out (by omega)⟩
      have RA2 : Aside0 (RowAt w2 (w1.heap.size + 1) 67 A) := ⟨HA.out.below B2.out (by omega)⟩
      have RF2 : Aside0 (RowAt w2 wr.heap.size 67 noTimes) := ⟨(RowAt.new wr _ rfl _ _).below hb2 (by simp)⟩
      have hw2 : wr.heap.size + 1 ≤ w2.heap.size := by have := hb2.size; simp at this; omega
      clear hN hb2 heq d0 d1 d2
      go_wp2
      obtain ⟨wo, hwo⟩ : ∃ wo : World, wo = wr := ⟨_, rfl⟩
      subst hwo
      go_loopg [22] 8 (fun gg v22 wq => ∃ (ss : Nat) (O2 F2 : List Bool), ss ≤ 8 ∧ 8 - ss ≤ gg ∧ v22 = .int .i64 ss ∧ O2.length = 2408 ∧ F2.length = 2408 ∧ Aside0 (RowAt wq w1.heap.size 67 O2) ∧ Aside0 (RowAt wq (w1.heap.size + 1) 67 A) ∧ Aside0 (RowAt wq wo.heap.size 67 F2) ∧ Aside0 (Below w1.heap.size w2 wq) ∧ Aside0 (joinTo (ss * 301) O N O2 ∧ freshTo (ss * 301) O N F2))
      case atStart => exact ⟨0, O, noTimes, by omega, by omega, rfl, lO, noTimes_length, RO2, RA2, RF2, ⟨Below.refl _ _⟩, ⟨by rw [Nat.zero_mul]; exact join_start O N⟩⟩
      case round =>
        obtain ⟨ss, O2, F2, hss, hg2, rfl, lO2, lF2, HO2, HA2, HF2, BQ, HJ⟩ := hrel
        by_cases hlt : ss < 8
        · have hltz : (ss : Int) < 8 := by omega
          have hixT := fun w => run_indexT .i64 N lN ss hlt w
          have lp := part_length N (ss * 301) 301 (by omega)
          have hwq : wo.heap.size + 1 ≤ wr.heap.size := by have := BQ.out.size; omega
          go_wp2
          rw [run_storeRow _ wr.heap.size 65 noHours _ (row_at _ _ _ _ rfl) (by rw [noHours_length, lp])]
          go_wp2_with (refine wpList_loadH rfl (.tmp 9) rfl _ rfl _ _ (RowAt.new _ _ rfl _ _) lp ?_)
          have BQ1 : Aside0 (Below w1.heap.size w2 (wr.alloc (.cells (bcells ((N.drop (ss * 301)).take 301)) 65))) := ⟨BQ.out.alloc (by omega) _⟩
          have HO3 : Aside0 (RowAt (wr.alloc (.cells (bcells ((N.drop (ss * 301)).take 301)) 65)) w1.heap.size 67 O2) := ⟨HO2.out.alloc _⟩
          have HA3 : Aside0 (RowAt (wr.alloc (.cells (bcells ((N.drop (ss * 301)).take 301)) 65)) (w1.heap.size + 1) 67 A) := ⟨HA2.out.alloc _⟩
          have HF3 : Aside0 (RowAt (wr.alloc (.cells (bcells ((N.drop (ss * 301)).take 301)) 65)) wo.heap.size 67 F2) := ⟨HF2.out.alloc _⟩
          have HP := Aside0.mk lp
          clear lp hixT HO2 HA2 HF2 BQ
          have hge : wo.heap.size ≠ w1.heap.size := by omega
          have hge2 : w1.heap.size ≠ wo.heap.size := by omega
          have hge3 : w1.heap.size + 1 ≠ wo.heap.size := by omega
          generalize (wr.alloc (.cells (bcells ((N.drop (ss * 301)).take 301)) 65)) = W6 at *
          go_loopg [27] 301 (fun gg v27 wp => ∃ (hh : Nat) (O3 F3 : List Bool), hh ≤ 301 ∧ 301 - hh ≤ gg ∧ v27 = .int .i64 hh ∧ O3.length = 2408 ∧ F3.length = 2408 ∧ Aside0 (RowAt wp w1.heap.size 67 O3) ∧ Aside0 (RowAt wp (w1.heap.size + 1) 67 A) ∧ Aside0 (RowAt wp wo.heap.size 67 F3) ∧ Aside0 (Below w1.heap.size w2 wp) ∧ Aside0 (joinTo (ss * 301 + hh) O N O3 ∧ freshTo (ss * 301 + hh) O N F3))
          case atStart => exact ⟨0, O2, F2, by omega, by omega, rfl, lO2, lF2, HO3, HA3, HF3, BQ1, HJ⟩
          case round =>
            obtain ⟨hh, O3, F3, hhh, hg3, rfl, lO3, lF3, HO4, HA4, HF4, BQ4, HJ4⟩ := hrel
            by_cases hlth : hh < 301
            · have hlthz : (hh : Int) < 301 := by omega
              have hix := fun w => run_indexH .i64 _ HP.out hh hlth w
              rw [part_getD _ _ _ _ hlth] at hix
              have hpb : ss * 301 + hh < 2408 := by omega
              cases hn : N.getD (ss * 301 + hh) false with
              | false =>
                rw [hn] at hix
                have HJ5 : Aside0 _ := ⟨join_keep hpb (.inl hn) HJ4.out.1 HJ4.out.2⟩
                clear hn
                go_wp2
                go_roundg (301 - (hh + 1))
                case measure => omega
                case rel => exact ⟨hh + 1, O3, F3, by omega, by omega, by go_num, lO3, lF3, HO4, HA4, HF4, BQ4, HJ5⟩
              | true =>
                rw [hn] at hix
                have hc := HO4.out.cell (ss * 301 + hh) (by omega)
                cases ho : O3.getD (ss * 301 + hh) false with
                | true =>
                  rw [ho] at hc
                  have HJ5 : Aside0 _ := ⟨join_keep hpb (.inr ho) HJ4.out.1 HJ4.out.2⟩
                  clear hn ho
                  go_wp2
                  go_roundg (301 - (hh + 1))
                  case measure => omega
                  case rel => exact ⟨hh + 1, O3, F3, by omega, by omega, by go_num, lO3, lF3, HO4, HA4, HF4, BQ4, HJ5⟩
                | false =>
                  rw [ho] at hc
                  have hf := HO4.out.frozen (ss * 301 + hh)
                  have hc2 := HF4.out.cell (ss * 301 + hh) (by omega)
                  have hf2 := HF4.out.frozen (ss * 301 + hh)
                  have HJ5 : Aside0 _ := ⟨join_set hpb hn ho lO3 lF3 HJ4.out.1 HJ4.out.2⟩
                  clear hn ho
                  go_wp2
                  go_region
                  have k1 : Only w1.heap.size wr (wr.setCell ⟨w1.heap.size, ss * 301 + hh, none⟩ (.bool true)) := (Only.refl _ _).setCell _ _
                  have k2 : Only wo.heap.size (wr.setCell ⟨w1.heap.size, ss * 301 + hh, none⟩ (.bool true)) ((wr.setCell ⟨w1.heap.size, ss * 301 + hh, none⟩ (.bool true)).setCell ⟨wo.heap.size, ss * 301 + hh, none⟩ (.bool true)).drew := ((Only.refl _ _).setCell _ _).drew
                  have n1 := Aside0.mk ((HO4.out.set (ss * 301 + hh) true).only k2 hge2)
                  have n2 := Aside0.mk ((HA4.out.only k1 (by omega)).only k2 hge3)
                  have n3 := Aside0.mk (((HF4.out.only k1 hge).set (ss * 301 + hh) true).drew)
                  have n4 : Aside0 (Below w1.heap.size w2 ((wr.setCell ⟨w1.heap.size, ss * 301 + hh, none⟩ (.bool true)).setCell ⟨wo.heap.size, ss * 301 + hh, none⟩ (.bool true)).drew) := ⟨(BQ4.out.trans (k1.below (Nat.le_refl _))).trans (k2.below (by omega))⟩
                  clear k1 k2 hc hf hc2 hf2 HO4 HA4 HF4 BQ4
                  generalize ((wr.setCell ⟨w1.heap.size, ss * 301 + hh, none⟩ (.bool true)).setCell ⟨wo.heap.size, ss * 301 + hh, none⟩ (.bool true)).drew = W8 at *
                  go_wp2
                  go_roundg (301 - (hh + 1))
                  case measure => omega
                  case rel => exact ⟨hh + 1, O3.set (ss * 301 + hh) true, F3.set (ss * 301 + hh) true, by omega, by omega, by go_num, by rw [List.length_set]; exact lO3, by rw [List.length_set]; exact lF3, n1, n2, n3, n4, HJ5⟩
            · have hlthz : ¬ (hh : Int) < 301 := by omega
              have he : hh = 301 := by omega
              have HJ5 : Aside0 (joinTo ((ss + 1) * 301) O N O3 ∧ freshTo ((ss + 1) * 301) O N F3) := ⟨by have := HJ4.out; rw [he, show ss * 301 + 301 = (ss + 1) * 301 by omega] at this; exact this⟩
              clear he
              go_wp2
              go_roundg (8 - (ss + 1))
              case measure => omega
              case rel => exact ⟨ss + 1, O3, F3, by omega, by omega, by go_num, lO3, lF3, HO4, HA4, HF4, BQ4, HJ5⟩
        · have hltz : ¬ (ss : Int) < 8 := by omega
          have he : ss = 8 := by omega
          have HJ5 : Aside0 (joinTo 2408 O N O2 ∧ freshTo 2408 O N F2) := ⟨by have := HJ.out; rw [he] at this; exact this⟩
          have HB5 : Aside0 (Bfs t l a0 h0 O2 F2) := ⟨HBf.out.round HL.out HN.out HJ5.out.1 HJ5.out.2 lO2 lF2⟩
          have hll : lack O2 F2 < lack O A := lack_lt lO lO2 lF2 HJ5.out.1 HJ5.out.2 HNE.out
          have hwq : wo.heap.size + 1 ≤ wr.heap.size := by have := BQ.out.size; omega
          clear he
          go_wp2_with (refine wpList_loadT rfl (.tmp 7) rfl _ rfl _ _ HF2.out lF2 ?_)
          rw [run_storeRow wr (w1.heap.size + 1) 67 A _ HA2.out.out (by rw [lA, lF2])]
          have H1 := Aside0.mk (HA2.out.row F2)
          have H2 := Aside0.mk (HO2.out.other (c := w1.heap.size + 1) (bcells F2) (by omega))
          have H3 : Aside0 (Below w1.heap.size W (wr.setRow (w1.heap.size + 1) (bcells F2))) := ⟨below_setRow (BW.out.trans ((B2.out.mono (by omega)).trans BQ.out)) (by omega) _⟩
          clear HO2 HA2 HF2 BQ
          generalize wr.setRow (w1.heap.size + 1) (bcells F2) = W7 at *
          go_wp2
          go_roundg (lack O2 F2)
          case measure => omega
          case rel => exact ⟨O2, F2, Nat.le_refl _, HB5, H2, H1, H3⟩
end Go.Proofs.Yticfecncdpdanaa.Q
