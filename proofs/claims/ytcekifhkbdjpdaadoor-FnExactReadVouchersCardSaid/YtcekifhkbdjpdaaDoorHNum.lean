/- impl's number and strings.Split, by the shelf's contracts: what they give, where the variables of the library hold what they are told to. -/
import Derived.Test.YtcekifhkbdjpdaaDoorOBase
import Derived.Test.YtcekifhkbdjpdaaDoorShelfR
import Derived.Lib.LaidTab
import Derived.Lib.SplitLaws
set_option linter.unusedVariables false
set_option linter.unusedSimpArgs false
namespace Go.Proofs.YtcekifhkbdjpdaaDoor.Q
open Go.RowKit Go.Proofs.YtcekifhkbdjpdaaDoorW.PrintWords Go.Proofs.YtcekifhkbdjpdaaDoorW.PrintLast Go.Proofs.YtcekifhkbdjpdaaDoorW.PrintMore
theorem below_grew (w : World) (k : Nat) (os : Array Obj) : Below w.heap.size w (Go.Sort.grow (w.drewN k) os) :=
  ⟨rfl, rfl, rfl, by simp [Go.Sort.grow], fun j hj => by simp [Go.Sort.grow, Array.getElem?_append, hj]⟩
/-- The table of powers of ten holds its numbers; the two errors' variables hold errors; bytealg's length is a number. -/
structure Tab (w : World) : Prop where
  pow : Lib.TabIs Tryd.prog w "internal/strconv.uint64pow10" .u64 Lib.pow10Tab
  syn : ∃ tp p, w.cell? ⟨4, 0, none⟩ = some (.iface tp p)
  ran : ∃ tp p, w.cell? ⟨5, 0, none⟩ = some (.iface tp p)
  len : ∃ m, w.cell? ⟨0, 0, none⟩ = some (.int .i64 m)
theorem gTab0 : (Tryd.prog.globalNamed "internal/strconv.uint64pow10").isSome = true := by kernel_rfl
theorem gTab : ∃ g, Tryd.prog.globalNamed "internal/strconv.uint64pow10" = some g := Option.isSome_iff_exists.1 gTab0
theorem pow_below {w w' : World} (h : Lib.TabIs Tryd.prog w "internal/strconv.uint64pow10" .u64 Lib.pow10Tab) (hb : Below w.heap.size w w') : Lib.TabIs Tryd.prog w' "internal/strconv.uint64pow10" .u64 Lib.pow10Tab := by
  obtain ⟨g, hg⟩ := gTab
  unfold Lib.TabIs World.var? at h ⊢
  rw [hg] at h ⊢
  simp only [Option.bind_some] at h ⊢
  have hlt : g < w.heap.size := by
    rcases Nat.lt_or_ge g w.heap.size with h1 | h1
    · exact h1
    · rw [Array.getElem?_eq_none h1] at h
      cases h
  rw [hb.block g hlt]
  exact h
theorem cell_below {w w' : World} {a : Addr} {v : Value} (h : w.cell? a = some v) (hb : Below w.heap.size w w') : w'.cell? a = some v :=
  (hb.cell (World.block_lt_of_cell? w _ h)).trans h
theorem Tab.below {w w' : World} (h : Tab w) (hb : Below w.heap.size w w') : Tab w' := by
  obtain ⟨a, ⟨t1, p1, b⟩, ⟨t2, p2, c⟩, ⟨m, d⟩⟩ := h
  exact ⟨pow_below a hb, ⟨t1, p1, cell_below b hb⟩, ⟨t2, p2, cell_below c hb⟩, ⟨m, cell_below d hb⟩⟩
theorem decimal_calls (a0 : Int) (w : World) (ht : Tab w) (h0 : -9223372036854775808 ≤ a0) (h1 : a0 ≤ 9223372036854775807) :
    Calls Tryd.prog 29 #[.int .i64 a0] w fun e w' => e = .returned (.string ⟨(Lib.itoa a0).toArray⟩) ∧ Below w.heap.size w w' := by
  have HT := Aside0.mk ht
  have H0 := Aside0.mk h0
  have H1 := Aside0.mk h1
  clear ht h0 h1
  go_enter Tryd.func29, Tryd.ntmps29
  go_wp2_with (go_at_call 58; refine (Tryd.strconv_FormatInt_10 _ H0.out H1.out _ HT.out.pow).mono ?_; rintro e w' ⟨rfl, k, os, rfl⟩)
  go_ret
  exact ⟨rfl, below_grew _ _ _⟩
/-- What number gives. -/
def numI (s : ByteArray) (most : Int) : Int × Bool := match Lib.parseIntB 64 s.data.toList with
  | .ok v => if Lib.itoa v = s.toList ∧ inB v 0 most = true then (v, true) else (0, false)
  | _ => (0, false)
theorem parse_bounds {l : List UInt8} {v : Int} (h : Lib.parseIntB 64 l = .ok v) : -9223372036854775808 ≤ v ∧ v ≤ 9223372036854775807 := by
  unfold Lib.parseIntB at h
  split at h
  · cases h
  · simp only at h
    split at h
    · cases h
    · cases h
    · split at h
      · cases h
      · split at h
        · cases h
        · injection h with h
          rename_i h1 h2
          subst h
          split <;> omega
theorem num_calls (s : ByteArray) (most : Int) (w : World) (hs : s.size ≤ 1048576) (ht : Tab w) :
    Calls Tryd.prog 61 #[.string s, .int .i64 most] w fun e w' => e = .returned (.tuple #[.int .i64 (numI s most).1, .bool (numI s most).2]) ∧ Below w.heap.size w w' := by
  have HT := Aside0.mk ht
  have HS := Aside0.mk hs
  clear ht hs
  rcases hp : Lib.parseIntB 64 s.data.toList with v | _ | _
  rotate_left
  ·
    have E : Aside0 (numI s most = (0, false)) := ⟨by unfold numI; rw [hp]⟩
    have HP := Aside0.mk hp
    clear hp
    obtain ⟨tp, p, hv⟩ := HT.out.syn
    have HV := Aside0.mk hv
    clear hv
    go_enter Tryd.func61, Tryd.ntmps61
    go_wp2_with (go_at_call 78; refine (Tryd.strconv_ParseInt_10_at64_syntax s (by have := HS.out; omega) HP.out _ _ HV.out (Or.inr ⟨_, _, rfl⟩)).mono ?_; rintro e w' ⟨N, rfl, _, _, hb⟩; have HB := Aside0.mk hb; clear hb)
    go_ret2
    exact ⟨by rw [E.out]; rfl, HB.out⟩
  ·
    have E : Aside0 (numI s most = (0, false)) := ⟨by unfold numI; rw [hp]⟩
    have HP := Aside0.mk hp
    clear hp
    obtain ⟨tp, p, hv⟩ := HT.out.ran
    have HV := Aside0.mk hv
    clear hv
    go_enter Tryd.func61, Tryd.ntmps61
    go_wp2_with (go_at_call 78; refine (Tryd.strconv_ParseInt_10_at64_range s (by have := HS.out; omega) HP.out _ _ HV.out (Or.inr ⟨_, _, rfl⟩)).mono ?_; rintro e w' ⟨N, rfl, _, _, hb⟩; have HB := Aside0.mk hb; clear hb)
    go_ret2
    exact ⟨by rw [E.out]; rfl, HB.out⟩
  ·
    obtain ⟨v0, v1⟩ := parse_bounds hp
    have E : Aside0 (numI s most = if Lib.itoa v = s.toList ∧ inB v 0 most = true then (v, true) else (0, false)) := ⟨by unfold numI; rw [hp]⟩
    have HP := Aside0.mk hp
    have V0 := Aside0.mk v0
    have V1 := Aside0.mk v1
    clear hp v0 v1
    have B : ∀ w' : World, (w' = w ∨ ∃ t, w' = Lib.bytesWorld w 5 t) → Below w.heap.size w w' := by
      rintro w' (rfl | ⟨t, rfl⟩)
      · exact Below.refl _ _
      · exact bytes_below (Below.refl _ _) (Nat.le_refl _) _ _
    go_enter Tryd.func61, Tryd.ntmps61
    go_wp2_with (first
      | (go_at_call 78; refine (Tryd.strconv_ParseInt_10_at64_ok s (by have := HS.out; omega) v HP.out _).mono ?_; rintro e w1 ⟨rfl, h1⟩; have HB1 := Aside0.mk (B w1 h1); clear h1)
      | (go_at_call 29; refine (decimal_calls v _ (HT.out.below HB1.out) V0.out V1.out).mono ?_; rintro e w2 ⟨rfl, h2⟩; have HB2 : Aside0 (Below w.heap.size w w2) := ⟨HB1.out.trans (h2.mono HB1.out.size)⟩; clear h2)
      | (go_at_call 57; refine (within_is _ _ _ _ rfl _).mono ?_; rintro e w3 ⟨rfl, rfl⟩)
      | fail)
    · rename_i he hq
      go_ret2
      exact ⟨by rw [E.out, if_neg (fun h => by rw [h.2] at hq; cases hq)]; rfl, HB2.out⟩
    · rename_i he hq
      go_ret2
      exact ⟨by rw [E.out, if_pos ⟨he, by simpa using hq⟩]; rfl, HB2.out⟩
    · rename_i hq
      go_ret2
      exact ⟨by rw [E.out, if_neg (fun h => hq h.1)]; rfl, HB2.out⟩
def impl_number.f (a0 : ByteArray) (a1 : Int) : Option (Int × Bool) := if a0.size ≤ 1048576 then some (numI a0 a1) else none
theorem impl_number.calls (a0 : ByteArray) (a1 : Int) (r1 : Int) (r2 : Bool) (w : World) (ht : Tab w) (h : impl_number.f a0 a1 = some (r1, r2)) :
    Calls Tryd.prog 61 #[.string a0, .int .i64 a1] w fun e w' => e = .returned (.tuple #[.int .i64 r1, .bool r2]) ∧ Below w.heap.size w w' := by
  unfold impl_number.f at h
  split at h
  · rename_i hh
    injection h with h
    have := num_calls a0 a1 w hh ht
    rw [h] at this
    exact this
  · cases h
def strings_Split.f (a0 : ByteArray) (a1 : ByteArray) : Option (List ByteArray) := if a0.size ≤ 1048576 ∧ a1.size = 1 then some (Lib.splitB a1 0 (Lib.countB a0 a1) a0) else none
theorem strings_Split.calls (a0 : ByteArray) (a1 : ByteArray) (r : List ByteArray) (w : World) (ht : Tab w) (h : strings_Split.f a0 a1 = some r) :
    Calls Tryd.prog 36 #[.string a0, .string a1] w fun e w' => ∃ v0_ : Value, e = .returned (v0_) ∧ Kd.R Kd.string 9 w' w.heap.size (fun _ => True) v0_ r ∧ Below w.heap.size w w' := by
  unfold strings_Split.f at h
  split at h
  · rename_i hh
    injection h with h
    obtain ⟨m, hm⟩ := ht.len
    have hlen := Lib.splitB_all a1 (by omega) 0 _ a0 rfl
    have hc := Lib.countB_le a1 (by omega) a0.size a0 (Nat.le_refl _)
    refine (Tryd.strings_Split a0 a1 m w (by omega) hm (by omega)).mono ?_
    rintro e w' ⟨rfl, rfl⟩
    rw [h] at hlen ⊢
    rw [← hlen]
    refine ⟨_, rfl, ?_, below_alloc (Below.refl _ _) _⟩
    refine Kd.R_of_own ?_ (fun _ _ => trivial)
    exact ⟨by simp [encs], .inr ⟨w.heap.size, r.length, (r.map Value.string).toArray, rfl, Nat.le_refl _, heap_alloc_new w _, Nat.le_refl _, by unfold maxLen; omega, by simp, by simp [encs, List.take_of_length_le]⟩⟩
  · cases h
end Go.Proofs.YtcekifhkbdjpdaaDoor.Q
