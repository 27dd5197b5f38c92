/- impl's decimal and strings.Join, by the shelf's contracts: what they give, where the table of powers of ten holds its numbers. -/
import Derived.Test.YtcekifhkbdjpdaaDoorOBase
import Derived.Test.YtcekifhkbdjpdaaDoorShelf
import Derived.Lib.LaidTab
set_option linter.unusedVariables false
set_option linter.unusedSimpArgs false
namespace Go.Proofs.YtcekifhkbdjpdaaDoor.Q
open Go.RowKit Go.Proofs.YtcekifhkbdjpdaaDoorW.PrintWords Go.Proofs.YtcekifhkbdjpdaaDoorW.PrintLast Go.Proofs.YtcekifhkbdjpdaaDoorW.PrintMore
/-- The table of powers of ten holds its numbers. -/
def Tab (w : World) : Prop := Lib.TabIs Tryd.prog w "internal/strconv.uint64pow10" .u64 Lib.pow10Tab
theorem gTab0 : (Tryd.prog.globalNamed "internal/strconv.uint64pow10").isSome = true := by kernel_rfl
theorem gTab : ∃ g, Tryd.prog.globalNamed "internal/strconv.uint64pow10" = some g := Option.isSome_iff_exists.1 gTab0
theorem Tab.below {w w' : World} (h : Tab w) (hb : Below w.heap.size w w') : Tab w' := by
  obtain ⟨g, hg⟩ := gTab
  unfold Tab Lib.TabIs World.var? at h ⊢
  rw [hg] at h ⊢
  simp only [Option.bind_some] at h ⊢
  have hlt : g < w.heap.size := by
    rcases Nat.lt_or_ge g w.heap.size with h1 | h1
    · exact h1
    · rw [Array.getElem?_eq_none h1] at h
      cases h
  rw [hb.block g hlt]
  exact h
theorem below_grew (w : World) (k : Nat) (os : Array Obj) : Below w.heap.size w (Go.Sort.grow (w.drewN k) os) :=
  ⟨rfl, rfl, rfl, by simp [Go.Sort.grow], fun j hj => by simp [Go.Sort.grow, Array.getElem?_append, hj]⟩
def impl_decimal.f (a0 : Int) : Option (ByteArray) := if -9223372036854775808 ≤ a0 ∧ a0 ≤ 9223372036854775807 then some ⟨(Lib.itoa a0).toArray⟩ else none
theorem impl_decimal.calls (a0 : Int) (r : ByteArray) (w : World) (ht : Tab w) (h : impl_decimal.f a0 = some r) :
    Calls Tryd.prog 29 #[.int .i64 a0] w fun e w' => e = .returned (.string r) ∧ Below w.heap.size w w' := by
  unfold impl_decimal.f at h
  split at h
  · rename_i hh
    injection h with h
    subst h
    obtain ⟨h0, h1⟩ := hh
    have HT := Aside0.mk ht
    have H0 := Aside0.mk h0
    have H1 := Aside0.mk h1
    clear ht h0 h1
    go_enter Tryd.func29, Tryd.ntmps29
    go_wp2_with (go_at_call 58; refine (Tryd.strconv_FormatInt_10 _ H0.out H1.out _ HT.out).mono ?_; rintro e w' ⟨rfl, k, os, rfl⟩)
    go_ret
    exact ⟨rfl, below_grew _ _ _⟩
  · cases h
def joinB (l : List ByteArray) (a : ByteArray) : ByteArray := ⟨(Lib.join (l.map (·.data.toList)) a.data.toList).toArray⟩
def strings_Join.f (l0 : List ByteArray) (a1 : ByteArray) : Option (ByteArray) := if l0.length ≤ 140737488355328 ∧ (Lib.join (l0.map (·.data.toList)) a1.data.toList).length ≤ 140737488355328 then some (joinB l0 a1) else none
theorem strings_Join.calls (A0 : Option Addr) (c0 : Nat) (l0 : List ByteArray) (a1 : ByteArray) (r : ByteArray) (w : World) (hr0 : Kd.C Kd.string w A0 l0.length l0) (hc0 : l0.length ≤ c0) (h : strings_Join.f l0 a1 = some r) :
    Calls Tryd.prog 30 #[.slice A0 l0.length c0, .string a1] w fun e w' => e = .returned (.string r) ∧ Below w.heap.size w w' := by
  unfold strings_Join.f at h
  split at h
  · rename_i hh
    injection h with h
    subst h
    obtain ⟨h0, h1⟩ := hh
    match l0, hr0, hc0, h0, h1 with
    | [], hr0, hc0, h0, h1 =>
      refine (Tryd.strings_Join_none A0 c0 a1 w).mono ?_
      rintro e w' ⟨rfl, rfl⟩
      exact ⟨rfl, Below.refl _ _⟩
    | x :: l, hr0, hc0, h0, h1 =>
      obtain ⟨ad, e, hc⟩ := hr0.2.2 (by simp)
      subst e
      have hcell0 : ∀ (j : Nat) y, (x :: l)[j]? = some y → w.cell? (ad.add j) = some (.string y) := by
        intro j y hj
        obtain ⟨c, _, hr, hcell⟩ := hc j y hj
        have hr' : c = [.string y] := hr
        have := hcell 0 (.string y) (by rw [hr']; rfl)
        simpa [show (Kd.string).sz = 1 from rfl] using this
      have hs : ad.spot = none := by
        have h0 := hcell0 0 x rfl
        cases hsp : ad.spot with
        | none => rfl
        | some s =>
          simp only [Addr.add, if_true] at h0
          unfold World.cell? at h0
          rw [hsp] at h0
          split at h0 <;> simp at h0
      obtain ⟨bk, o, sp⟩ := ad
      simp only at hs
      subst hs
      have hcells : ∀ (j : Nat) y, (x :: l)[j]? = some y → w.cell? ⟨bk, o + j, none⟩ = some (.string y) := by
        intro j y hj
        have := hcell0 j y hj
        unfold Addr.add at this
        by_cases hz : j = 0
        · subst hz
          simpa using this
        · rw [if_neg hz] at this
          exact this
      have hb : bk < w.heap.size := World.block_lt_of_cell? w (a := ⟨bk, o + 0, none⟩) (hcells 0 x rfl)
      exact Tryd.strings_Join bk o c0 (x :: l) a1 w hcells hb h0 hc0 h1
  · cases h
end Go.Proofs.YtcekifhkbdjpdaaDoor.Q
