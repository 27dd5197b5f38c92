/- slices.Repeat at a row of one whole number. -/
import Derived.Test.YtlcnjpibfjhibaaHFewest
import Derived.Test.YtlcnjpibfjhibaaQH
import Derived.Laws.Bits64b
import Derived.Laws.CopyOwn
import Derived.Deep.RegionLaw
import Derived.Deep.RegionHeldLaw
set_option linter.unusedVariables false
set_option linter.unusedSimpArgs false
namespace Go.Proofs.Ytlcnjpibfjhibaa.Q
open Go.RowKit Go.Proofs.YtlcnjpibfjhibaaW.PrintWords Go.Proofs.YtlcnjpibfjhibaaW.PrintLast Go.Proofs.YtlcnjpibfjhibaaW.PrintMore
theorem mul_one_is (n : Nat) (hn : n ≤ 1000000) : bits_Mul.f 1 (n : Int) = some (0, (n : Int)) := by
  have e1 : Go.bits .and .u64 (n : Int) 4294967295 = (n : Int) := by
    have := bits_and_u64_nat n 4294967295 (by omega) (by omega)
    rw [show ((4294967295 : Nat) : Int) = 4294967295 from rfl] at this
    rw [this]
    have h : n &&& 4294967295 = n % 4294967296 := Nat.and_two_pow_sub_one_eq_mod n 32
    rw [h, Nat.mod_eq_of_lt (by omega)]
  have e2 : Go.bits .and .u64 1 4294967295 = 1 := by
    have := bits_and_u64_nat 1 4294967295 (by omega) (by omega)
    simpa using this
  have e3 : Go.bits .and .u64 0 4294967295 = 0 := by
    have := bits_and_u64_nat 0 4294967295 (by omega) (by omega)
    simpa using this
  have d1 : (n : Int) / 4294967296 = 0 := by omega
  have w0 : IntKind.u64.wrap 0 = 0 := by rw [IntKind.wrap_u64]; rfl
  have w1 : IntKind.u64.wrap (n : Int) = (n : Int) := by rw [IntKind.wrap_u64]; omega
  unfold bits_Mul.f bits_Mul64.f
  simp [e1, e2, e3, d1, w0, w1]
theorem infoN64s : (Try.prog.info? 2).map (·.size) = some 1 := by kernel_rfl
theorem RowN.of_hid {w : World} {g : Nat} {xs : List Int} (h : w.heap[g]? = some (.cells (xs.map (Value.int .i64)).toArray 2 (0, 0))) : RowN w g xs := ⟨h⟩
theorem splice_rep (x : Int) (n k j : Nat) (hj : k + j ≤ n) : splice ((List.replicate k x ++ List.replicate (n - k) 0).map (Value.int .i64)) k ((List.replicate j x).map (Value.int .i64)) = (List.replicate (k + j) x ++ List.replicate (n - (k + j)) 0).map (Value.int .i64) := by
  unfold splice
  simp only [List.map_append, List.map_replicate, List.length_replicate]
  rw [List.take_append_of_le_length (by simp), List.take_of_length_le (by simp), List.drop_append]
  simp only [List.length_replicate, List.drop_replicate]
  rw [show k - (k + j) = 0 by omega, List.replicate_zero, List.nil_append, show n - k - (k + j - k) = n - (k + j) by omega, ← List.append_assoc, List.replicate_append_replicate]
set_option maxHeartbeats 4000000 in
set_option maxRecDepth 100000 in
theorem repeat_any (A : Option Addr) (c : Nat) (x : Int) (n : Nat) (hn : 1 ≤ n) (hn2 : n ≤ 1000) (w : World) (hr : Kd.C (Kd.int .i64) w A 1 [x]) (hc : 1 ≤ c) :
    Calls Try.prog 73 #[.slice A 1 c, .int .i64 (n : Int)] w fun e w' => ∃ g : Nat, e = .returned (.slice (some ⟨g, 0, none⟩) n n) ∧ w.heap.size ≤ g ∧ RowN w' g (List.replicate n x) ∧ Below w.heap.size w w' := by
  have HR := Aside0.mk hr
  have HMU := Aside0.mk (mul_one_is n (by omega))
  have hmk := fun W => run_make_row' (P := Try.prog) 24 2 (.int .i64 0) 8 Try.underlying24 infoN64 rfl .i64 .i64 n (by omega) (by omega) W
  rw [madeN n] at hmk
  obtain ⟨mc, hmc⟩ : ∃ mc, ((List.replicate n (0 : Int)).map (Value.int .i64)).toArray = mc := ⟨_, rfl⟩
  have HMC := Aside0.mk hmc
  rw [hmc] at hmk
  have hn0 : ¬ (n : Int) < 0 := by omega
  have hnb : ¬ (9223372036854775807 : Int) < (n : Int) := by omega
  have w1 : IntKind.u64.wrap (n : Int) = (n : Int) := by rw [IntKind.wrap_u64]; omega
  have w2 : IntKind.i64.wrap (n : Int) = (n : Int) := by rw [IntWalk.i64_in _ (by omega)]
  clear hmc hr
  go_enter Try.func73, Try.ntmps73
  go_upto_region 7 with ((go_at_call 80; refine (bits_Mul.calls _ _ _ _ _ HMU.out).mono ?_; rintro e w3 ⟨rfl, hd3⟩))
  have HB3 : Aside0 (Below w.heap.size w w3) := ⟨hd3.below⟩
  obtain ⟨g, hg⟩ : ∃ g, w3.heap.size = g := ⟨_, rfl⟩
  have hgw : w.heap.size ≤ g := by have := HB3.out.size; omega
  obtain ⟨W4, hW4⟩ : ∃ W4, W4 = w3.alloc (.cells mc 2) := ⟨_, rfl⟩
  have HB4 : Aside0 (Below w.heap.size w W4) := ⟨by rw [hW4]; exact HB3.out.alloc (by omega) _⟩
  have HR4 : Aside0 (W4.heap[g]? = some (.cells ((List.replicate 0 x ++ List.replicate (n - 0) (0 : Int)).map (Value.int .i64)).toArray 2 (0, 0))) := ⟨by
    rw [hW4, ← hg, ← HMC.out]
    exact blk_new _ _⟩
  obtain ⟨ad, e, hx⟩ := at_int64 (Kd.C_below HR.out HB4.out) 0 (by omega)
  subst e
  have hs : ∀ j v, ([Value.int .i64 x] : List Value)[j]? = some v → W4.cell? (ad.add j) = some v := by
    intro j v hv
    match j, hv with
    | 0, hv => simp at hv; rw [← hv]; exact hx
    | j + 1, hv => simp at hv
  rw [hg, ← hW4]
  have HS := Aside0.mk hs
  clear hs hx hW4 hg hd3
  have hmin : ([Value.int .i64 x] : List Value).length = Nat.min 1 n := by
    show 1 = min 1 n
    omega
  have HMN := Aside0.mk hmin
  clear hmin
  go_wp2_with ((with_reducible refine wpList_copy_splice rfl (.tmp 31) (.tmp 32) 24 24 rfl 2 Try.underlying24 infoN64s (some ⟨g, 0, none⟩) (some ad) n n 1 c rfl rfl g 0 _ 2 HR4.out [.int .i64 x] HMN.out (fun _ => ⟨rfl, ad, rfl, HS.out⟩) ?hfit ?hone w.heap.size w HB4.out hgw ?_); (case hfit => simp; omega); (case hone => intro v hv; rw [List.mem_singleton.1 hv]; rfl); intro w5 hg5 hb5)
  have HC5 : Aside0 (w5.heap[g]? = some (.cells ((List.replicate 1 x ++ List.replicate (n - 1) (0 : Int)).map (Value.int .i64)).toArray 2 (0, 0))) := ⟨by
    have h9 := hg5.out
    have h8 := splice_rep x n 0 1 (by omega)
    rw [show ([Value.int .i64 x] : List Value) = (List.replicate 1 x).map (Value.int .i64) from rfl, h8] at h9
    simpa using h9⟩
  have HB5 := Aside0.mk hb5
  clear hg5 hb5 HS
  go_loopg [8] n (fun gg v8 wr => ∃ (k : Nat), 1 ≤ k ∧ k ≤ n ∧ n - k ≤ gg ∧ v8 = .int .i64 (k : Int) ∧ Aside0 (wr.heap[g]? = some (.cells ((List.replicate k x ++ List.replicate (n - k) (0 : Int)).map (Value.int .i64)).toArray 2 (0, 0))) ∧ Aside0 (Below w.heap.size w wr))
  case atStart => exact ⟨1, Nat.le_refl _, hn, by omega, by simp [goInt], HC5, HB5⟩
  case round =>
    obtain ⟨k, hk1, hkn, hgg, rfl, HC, HB⟩ := hrel
    by_cases hlt : k < n
    · have hltz : (k : Int) < (n : Int) := by omega
      obtain ⟨i0, hi0, hzz⟩ := Option.map_eq_some_iff.1 infoN64
      simp only [Prod.mk.injEq] at hzz
      have hsl1 : ∀ V, (Instr.slice 24 (.slice (some ⟨g, 0, none⟩) n n) (some (.int .i64 (k : Int))) none none).run Try.prog V = .ok (.slice (some ⟨g, k, none⟩) (n - k) (n - k)) V := by
        intro V
        rw [cut_from 24 2 .i64 Try.underlying24 hi0 1 hzz.2.1 (some ⟨g, 0, none⟩) n n (k : Int) (by omega) (by omega)]
        simp only [Int.toNat_natCast, Nat.mul_one]
        rw [if_neg (by omega), Option.map_some, add_plain]
      have hsl2 : ∀ V, (Instr.slice 24 (.slice (some ⟨g, 0, none⟩) n n) none (some (.int .i64 (k : Int))) none).run Try.prog V = .ok (.slice (some ⟨g, 0, none⟩) k n) V := by
        intro V
        rw [cut_to 24 2 .i64 Try.underlying24 hi0 (some ⟨g, 0, none⟩) n n (k : Int) (by omega) (by omega) (Nat.le_refl _)]
        simp only [Int.toNat_natCast]
      obtain ⟨j, hj⟩ : ∃ j, min k (n - k) = j := ⟨_, rfl⟩
      have hj1 : 1 ≤ j := by omega
      have hjn : k + j ≤ n := by omega
      have hjk : j ≤ k := by omega
      have e1 : IntKind.i64.wrap ((k : Int) + (j : Int)) = ((k + j : Nat) : Int) := by rw [IntWalk.i64_in _ (by omega)]; omega
      have HCd : Aside0 (wr.drew.heap[g]? = some (.cells ((List.replicate k x ++ List.replicate (n - k) (0 : Int)).map (Value.int .i64)).toArray 2 (0, 0))) := ⟨HC.out⟩
      have HBd : Aside0 (Below w.heap.size w wr.drew) := ⟨HB.out.drew⟩
      obtain ⟨cs, hcs⟩ : ∃ cs, (List.replicate j x).map (Value.int .i64) = cs := ⟨_, rfl⟩
      have HCS := Aside0.mk hcs
      have hcl : cs.length = j := by rw [← hcs]; simp
      have HMIN : Aside0 (cs.length = Nat.min k (n - k)) := ⟨by rw [hcl]; exact hj.symm⟩
      have HONE : Aside0 (∀ v ∈ cs, v.oneCell' = true) := ⟨fun v hv => by
        rw [← hcs] at hv
        obtain ⟨y, _, rfl⟩ := List.mem_map.1 hv
        rfl⟩
      have HPOS : Aside0 (∀ i v, cs[i]? = some v → wr.drew.cell? ((⟨g, 0, none⟩ : Addr).add i) = some v) := ⟨fun i v hv => by
        have hi : i < j := by have := (List.getElem?_eq_some_iff.1 hv).1; omega
        rw [add_plain, cell_of_row wr.drew g _ _ _ (0, 0) HCd.out]
        rw [← hcs] at hv
        simp only [List.getElem?_map, List.getElem?_replicate, hi, if_true, Option.map_some] at hv
        simp only [List.getElem?_toArray, List.getElem?_map]
        rw [List.getElem?_append_left (by simp; omega), List.getElem?_replicate, if_pos (by omega)]
        simpa using hv⟩
      have HFIT : Aside0 (k + cs.length ≤ ((List.replicate k x ++ List.replicate (n - k) (0 : Int)).map (Value.int .i64)).length) := ⟨by rw [hcl]; simp; omega⟩
      have HSP : Aside0 (splice ((List.replicate k x ++ List.replicate (n - k) (0 : Int)).map (Value.int .i64)) k cs = (List.replicate (k + j) x ++ List.replicate (n - (k + j)) (0 : Int)).map (Value.int .i64)) := ⟨by rw [← hcs]; exact splice_rep x n k j hjn⟩
      have HCL := Aside0.mk hcl
      clear hcs hcl hj hzz hi0
      go_wp2
      go_region_law ((with_reducible refine step_copy_splice ?gd (.tmp 41) (.tmp 44) 24 24 ?op 2 Try.underlying24 infoN64s (some ⟨g, k, none⟩) (some ⟨g, 0, none⟩) (n - k) (n - k) k n ?hd ?hs g k _ 2 HCd.out cs HMIN.out (fun _ => ⟨rfl, _, rfl, HPOS.out⟩) HFIT.out HONE.out w.heap.size w HBd.out hgw ?_); (case gd => rfl); (case op => rfl); (case hd => simp [Go.Act.eval, Go.Act.put]); (case hs => simp [Go.Act.eval, Go.Act.put]); intro w6 hg6 hb6; rw [HCL.out]; simp only [goInt])
      have HC6 : Aside0 (w6.heap[g]? = some (.cells ((List.replicate (k + j) x ++ List.replicate (n - (k + j)) (0 : Int)).map (Value.int .i64)).toArray 2 (0, 0))) := ⟨by rw [← HSP.out]; exact hg6.out⟩
      have HB6 := Aside0.mk hb6
      clear hg6 hb6
      go_wp2
      go_roundg (n - (k + j))
      case measure => omega
      case rel => exact ⟨k + j, by omega, by omega, by omega, by go_num, HC6, HB6⟩
    · have hltz : ¬ (k : Int) < (n : Int) := by omega
      obtain rfl : n = k := by omega
      have HRR : Aside0 (RowN wr g (List.replicate n x)) := ⟨⟨by have h9 := HC.out; rw [Nat.sub_self, List.replicate_zero, List.append_nil] at h9; exact h9⟩⟩
      go_wp2
      go_ret
      exact ⟨g, rfl, hgw, HRR.out, HB.out⟩
end Go.Proofs.Ytlcnjpibfjhibaa.Q
