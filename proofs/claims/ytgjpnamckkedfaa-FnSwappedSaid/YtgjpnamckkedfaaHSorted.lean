/- slices.Sorted(slices.Values(x)) at []int64; impl's isRising, isEach. -/
import Derived.Test.YtgjpnamckkedfaaOBase
import Derived.Test.YtgjpnamckkedfaaHVals
import Derived.Test.YtgjpnamckkedfaaShelfS
import Derived.Lib.SlKeysI
import Derived.Lib.QuietBelow
set_option linter.unusedVariables false
set_option linter.unusedSimpArgs false
namespace Go.Proofs.Ytgjpnamckkedfaa.Q
open Go.RowKit Go.Proofs.YtgjpnamckkedfaaW.PrintWords Go.Proofs.YtgjpnamckkedfaaW.PrintLast Go.Proofs.YtgjpnamckkedfaaW.PrintMore
def sortL (l : List Int) : List Int := l.mergeSort fun x y => decide (x ≤ y)
theorem sortL_length (l : List Int) : (sortL l).length = l.length := List.length_mergeSort l
theorem ints_of_C {w : World} {A : Option Addr} {c : Nat} {zs : List Int} (hr : Kd.C (Kd.int .i64) w A zs.length zs) : Ints w.heap.size w (.slice A zs.length c) zs := by
  by_cases h0 : zs.length = 0
  · obtain rfl := List.eq_nil_of_length_eq_zero h0
    exact .inl ⟨_, _, rfl, rfl⟩
  · obtain ⟨ad, e, hx⟩ := at_int64 hr 0 (by omega)
    subst e
    have hb := block_lt_of_cell hx
    rw [show (ad.add 0).block = ad.block by unfold Addr.add; split <;> rfl] at hb
    have hs : ad.spot = none := by
      have h : w.cell? ad = some (.int .i64 (zs.getD 0 0)) := hx
      unfold World.cell? at h
      cases hsp : ad.spot with
      | none => rfl
      | some q => rw [hsp] at h; simp at h; split at h <;> simp at h
    obtain ⟨b, off, sp⟩ := ad
    simp only at hs
    subst hs
    refine .inr ⟨b, off, c, rfl, hb, fun j hj => ?_⟩
    obtain ⟨ad2, e2, hx2⟩ := at_int64 hr j hj
    injection e2 with e2
    subst e2
    rw [List.getD_eq_getElem?_getD] at hx2
    rw [← hx2]
    congr 1
    unfold Addr.add
    split
    · rename_i h; rw [h]; rfl
    · rfl
set_option maxHeartbeats 2000000 in
theorem sorted_is (Bs : Nat) (sv : Value) (zs : List Int) (hreach : zs.length ≤ 1048576) (w : World) (hBs : Bs < w.heap.size) (hc : w.cell? ⟨Bs, 0, none⟩ = some sv) (hI : Ints w.heap.size w sv zs) :
    Calls Try.prog 22 #[.func (.func 33) #[] #[.pointer (some ⟨Bs, 0, none⟩)]] w fun e w' => ∃ v, e = .returned v ∧ Kd.R (Kd.int .i64) 2 w' w.heap.size (fun _ => True) v (sortL zs) ∧ Below w.heap.size w w' := by
  have HC : Aside0 (Calls Try.prog 31 #[.func (.func 33) #[] #[.pointer (some ⟨Bs, 0, none⟩)]] w fun e W' => ∃ v, e = .returned v ∧ W'.ownsRow w.heap.size 2 1 v zs.length (zs.map (Value.int .i64)) ∧ (v = .slice none 0 0 ↔ zs = []) ∧ Below w.heap.size w W') :=
    ⟨callsIn_wide.1 (collect_in Fence.wide 6 trivial trivial trivial rfl (by omega) Bs sv zs hreach w hBs hc hI)⟩
  clear hI hc
  go_enter Try.func22, Try.ntmps22
  go_wp2_with fail
  refine HC.out.mono ?_
  rintro e W ⟨v, rfl, hrow, hnil, hb⟩
  have HB := Aside0.mk hb
  have HRow := Aside0.mk hrow
  rcases hrow.2 with ⟨rfl, hz⟩ | ⟨gb, cap, cur, rfl, hbase, hgb, r1, r2, r3, r4⟩
  · have hss : zs = [] := List.eq_nil_of_length_eq_zero hz
    subst hss
    clear hrow hnil hb hz
    go_wp2_with fail
    refine (Try.slices_Sort_int_none none 0 W).mono ?_
    rintro e w' ⟨rfl, rfl⟩
    go_wp2
    go_ret
    have e0 : sortL [] = [] := by simp [sortL]
    rw [e0]
    exact ⟨_, rfl, Kd.R_of_own HRow.out (fun _ _ => trivial), HB.out⟩
  · have hH : Go.Sort.Holds (Value.int .i64) W gb 0 zs.toArray := holds_of_block_i hgb (by simpa using r4)
    have hgl : gb < W.heap.size := (Array.getElem?_eq_some_iff.1 hgb).1
    have HS := Aside0.mk (Try.slices_Sort_int gb 0 cap zs W hH hgl (by omega))
    have HF := Aside0.mk (fun (n : Nat) (os : Array Obj) => ownsRow_sorted_i (os := os) (n := n) (ts := sortL zs) (sortL_length zs) hbase hgb r1 r2 r3)
    have hbs : Aside0 (w.heap.size ≤ gb) := ⟨hbase⟩
    clear hrow hnil hb hH r1 r2 r3 r4 hgb hbase
    go_wp2_with fail
    refine HS.out.mono ?_
    rintro e w' ⟨rfl, nn, os, rfl⟩
    have HG : Aside0 (W.grownBy (Go.Sort.grow (Go.Sort.putRow (Value.int .i64) (Go.Sort.ahead W nn) gb 0 (sortL zs).toArray) os) (some gb)) := ⟨grownBy_sorted_i _⟩
    have HR2 := Aside0.mk (HF.out nn os)
    have HE : Aside0 ((zs.mergeSort fun x y => decide (x ≤ y)) = sortL zs) := ⟨rfl⟩
    rw [HE.out]
    generalize Go.Sort.grow (Go.Sort.putRow (Value.int .i64) (Go.Sort.ahead W nn) gb 0 (sortL zs).toArray) os = w5 at *
    go_wp2
    go_ret
    refine ⟨_, rfl, ?_, HB.out.grown HG.out HB.out.size (fun j hj => by cases hj; exact hbs.out)⟩
    exact Kd.R_of_own (by rw [sortL_length]; exact HR2.out) (fun _ _ => trivial)
end Go.Proofs.Ytgjpnamckkedfaa.Q
