/- The law's marks at pairs of hours: written into a list of the call's own, and found again. -/
import Derived.Test.YtkcfniilinokgaaHA2
set_option linter.unusedVariables false
set_option linter.unusedSimpArgs false
namespace Go.Proofs.Ytkcfniilinokgaa.Q
open Go.RowKit Go.Proofs.YtkcfniilinokgaaW.PrintWords Go.Proofs.YtkcfniilinokgaaW.PrintLast Go.Proofs.YtkcfniilinokgaaW.PrintMore
def mk2 (a : Int) : Two2 := ⟨a, a + 1⟩
def marks2 (a : Int) (n : Nat) : List Two2 := (List.range n).map fun (i : Nat) => mk2 (a + 2 * (i : Int))
theorem marks2_length (a : Int) (n : Nat) : (marks2 a n).length = n := by simp [marks2]
theorem marks2_at (a : Int) (n k : Nat) (z : Two2) (hk : k < n) : (marks2 a n).getD k z = mk2 (a + 2 * (k : Int)) := by
  unfold marks2
  rw [List.getD_eq_getElem?_getD, List.getElem?_map, List.getElem?_range hk]
  rfl
theorem marks2_succ (a : Int) (n : Nat) : marks2 a (n + 1) = marks2 a n ++ [mk2 (a + 2 * (n : Int))] := by
  unfold marks2
  rw [List.range_succ, List.map_append]
  rfl
set_option maxHeartbeats 4000000 in
theorem heldA2_is (A : Option Addr) (c n : Nat) (hn : n ≤ 1000) (a : Int) (ha : 0 ≤ a) (hb : a ≤ 1000000) (w : World) (hr : Kd.C k51 w A n (marks2 a n)) (hc : n ≤ c) :
    Calls Try.prog 15 #[.slice A n c, .int .i64 a] w fun e w' => e = .returned (.int .i64 (a + 2 * (n : Int))) ∧ Below w.heap.size w w' := by
  have HR := Aside0.mk hr
  clear hr
  go_enter Try.func15, Try.ntmps15
  go_wp2
  go_loopg [1, 5] n (fun gg v1 v5 wr => ∃ k : Nat, k ≤ n ∧ n - k ≤ gg ∧ v5 = .int .i64 k ∧ v1 = .int .i64 (a + 2 * (k : Int)) ∧ Aside0 (Below w.heap.size w wr))
  case atStart => exact ⟨0, Nat.zero_le _, by omega, rfl, by simp, ⟨Below.refl _ _⟩⟩
  case round =>
    obtain ⟨k, hk, hg, rfl, rfl, BW⟩ := hrel
    by_cases hlt : k < n
    · have hltz : (k : Int) < (n : Int) := by omega
      obtain ⟨ad, e, hx0, hx1⟩ := at_T51 (Kd.C_below HR.out BW.out) (k : Int) (by omega) hltz
      simp only [rd_T51, Int.toNat_natCast, marks2_at a n k _ hlt, mk2] at hx0 hx1
      subst e
      obtain ⟨v, hv⟩ : ∃ v : Int, v = a + 2 * (k : Int) := ⟨_, rfl⟩
      have hv0 : 0 ≤ v := by omega
      have hv1 : v ≤ 2000000 := by omega
      have HV := Aside0.mk hv
      rw [← hv] at hx0 hx1 ⊢
      clear hv
      have e1 : IntKind.i64.wrap (v + 1) = v + 1 := by rw [i64_w]; unfold wrap64; omega
      have e2 : IntKind.i64.wrap (v + 1 + 1) = v + 1 + 1 := by rw [i64_w]; unfold wrap64; omega
      clear hx0 hx1
      go_wp2_with fail
      obtain ⟨wo, hwo⟩ : ∃ wo : World, wo = wr := ⟨_, rfl⟩
      subst hwo
      go_loopg [1, 6] 2 (fun gg v1 v6 w' => ∃ j : Nat, j ≤ 2 ∧ 2 - j ≤ gg ∧ v6 = .int .i64 j ∧ v1 = .int .i64 (v + (j : Int)) ∧ Aside0 (Below w.heap.size w w'))
      case atStart => exact ⟨0, by omega, by omega, rfl, by simp, BW⟩
      case round =>
        obtain ⟨j, hj, hg2, rfl, rfl, BW2⟩ := hrel
        obtain ⟨ad2, e2', hx0, hx1⟩ := at_T51 (Kd.C_below HR.out BW2.out) (k : Int) (by omega) hltz
        simp only [rd_T51, Int.toNat_natCast, marks2_at a n k _ hlt, mk2] at hx0 hx1
        obtain rfl := Option.some.inj e2'
        rw [← HV.out] at hx0 hx1
        match j, hj with
        | 0, _ =>
          go_wp2
          go_roundg 1
          case measure => omega
          case rel => exact ⟨1, by omega, by omega, rfl, by simp, BW2⟩
        | 1, _ =>
          go_wp2
          go_roundg 0
          case measure => omega
          case rel => exact ⟨2, by omega, by omega, rfl, by go_num, BW2⟩
        | 2, _ =>
          go_wp2
          go_roundg (n - (k + 1))
          case measure => omega
          case rel => exact ⟨k + 1, by omega, by omega, by go_num, by have := HV.out; congr 1; omega, BW2⟩
    · have hltz : ¬ (k : Int) < (n : Int) := by omega
      have hk' : k = n := by omega
      subst hk'
      go_wp2
      go_ret
      exact ⟨rfl, BW.out⟩
def laws_heldInt64A2S.f (l0 : List Two2) (a1 : Int) : Option (Int) := if l0.length ≤ 1000 ∧ 0 ≤ a1 ∧ a1 ≤ 1000000 ∧ l0 = marks2 a1 l0.length then some (a1 + 2 * (l0.length : Int)) else none
theorem laws_heldInt64A2S.calls (A0 : Option Addr) (c0 : Nat) (l0 : List Two2) (a1 : Int) (r : Int) (w : World) (hr0 : Kd.C k51 w A0 l0.length l0) (hc0 : l0.length ≤ c0) (h : laws_heldInt64A2S.f l0 a1 = some r) :
    Calls Try.prog 15 #[.slice A0 l0.length c0, .int .i64 a1] w fun e w' => e = .returned (.int .i64 r) ∧ Below w.heap.size w w' := by
  unfold laws_heldInt64A2S.f at h
  split at h
  · rename_i hh
    injection h with h
    subst h
    obtain ⟨h1, h2, h3, h4⟩ := hh
    have hr : Kd.C k51 w A0 l0.length (marks2 a1 l0.length) := h4 ▸ hr0
    exact heldA2_is A0 c0 l0.length h1 a1 h2 h3 w hr hc0
  · cases h
/-- What stands in the list when k elements and j numbers of the next are marked. -/
def part2 (xs : List Two2) (k : Nat) (v : Int) (j : Nat) : List Two2 := if j = 0 then xs else xs.set k ⟨v, if j = 1 then (rd_T51 xs (k : Int)).f1 else v + 1⟩
theorem part2_length (xs : List Two2) (k : Nat) (v : Int) (j : Nat) : (part2 xs k v j).length = xs.length := by unfold part2; split <;> simp
theorem part2_end (a : Int) (l : List Two2) (k : Nat) (hk : k < l.length) : part2 (marks2 a k ++ l.drop k) k (a + 2 * (k : Int)) 2 = marks2 a (k + 1) ++ l.drop (k + 1) := by
  unfold part2
  rw [if_neg (by decide), if_neg (by decide), marks2_succ]
  have h1 := marks2_length a k
  generalize marks2 a k = m at h1 ⊢
  rw [List.set_append, if_neg (by omega), h1, Nat.sub_self, List.drop_eq_getElem_cons hk, List.set_cons_zero, List.append_assoc]
  rfl
theorem part2_step0 (xs : List Two2) (k : Nat) (v : Int) : (part2 xs k v 0).set k ⟨v, (rd_T51 (part2 xs k v 0) (k : Int)).f1⟩ = part2 xs k v 1 := by
  unfold part2
  simp
theorem part2_step1 (xs : List Two2) (k : Nat) (v : Int) (hk : k < xs.length) : (part2 xs k v 1).set k ⟨(rd_T51 (part2 xs k v 1) (k : Int)).f0, v + 1⟩ = part2 xs k v 2 := by
  unfold part2
  rw [if_neg (by decide), if_pos rfl, if_neg (by decide), if_neg (by decide), List.set_set]
  congr 1
  simp [rd_T51, hk]
set_option maxHeartbeats 8000000 in
theorem markA2_is (P : Nat → Prop) (A : Option Addr) (c : Nat) (l : List Two2) (hn : l.length ≤ 1000) (a : Int) (ha : 0 ≤ a) (hb : a ≤ 1000000) (w0 w : World) (hB : Below w0.heap.size w0 w) (ho : Kd.R k51 51 w w0.heap.size P (.slice A l.length c) l) :
    Calls Try.prog 14 #[.slice A l.length c, .int .i64 a] w fun e w' => e = .returned (.int .i64 (a + 2 * (l.length : Int))) ∧ Kd.R k51 51 w' w0.heap.size (fun k_ => (P k_ ∨ w.heap.size ≤ k_)) (.slice A l.length c) (marks2 a l.length) ∧ Below w0.heap.size w0 w' ∧ Kept w w' (fun k_ => P k_) := by
  have HO0 := Aside0.mk (show Kd.R k51 51 w w0.heap.size (fun k_ => (P k_ ∨ w.heap.size ≤ k_)) (.slice A l.length c) l from Kd.R_mono ho (fun k_ hk => (.inl hk)))
  have HB0 := Aside0.mk hB
  have hbig : l.length ≤ 9223372036854775807 := by omega
  clear hB ho
  go_enter Try.func14, Try.ntmps14
  go_wp2
  go_loopg [1, 5] l.length (fun gg v1 v5 wr => ∃ k : Nat, k ≤ l.length ∧ l.length - k ≤ gg ∧ v5 = .int .i64 k ∧ v1 = .int .i64 (a + 2 * (k : Int)) ∧ Aside0 (Kd.R k51 51 wr w0.heap.size (fun k_ => (P k_ ∨ w.heap.size ≤ k_)) (.slice A l.length c) (marks2 a k ++ l.drop k)) ∧ Aside0 (Below w0.heap.size w0 wr) ∧ Aside0 (Kept w wr (fun k_ => P k_)))
  case atStart => exact ⟨0, Nat.zero_le _, by omega, rfl, by simp, ⟨by simpa [marks2] using HO0.out⟩, HB0, ⟨Kept.refl _ _⟩⟩
  case round =>
    obtain ⟨k, hk, hg, rfl, rfl, HO, HB, HK⟩ := hrel
    by_cases hlt : k < l.length
    · have hltz : (k : Int) < (l.length : Int) := by omega
      obtain ⟨v, hv⟩ : ∃ v : Int, v = a + 2 * (k : Int) := ⟨_, rfl⟩
      have hv0 : 0 ≤ v := by omega
      have hv1 : v ≤ 2000000 := by omega
      have HV := Aside0.mk hv
      have EP := Aside0.mk (part2_end a l k hlt)
      obtain ⟨xs, hxs⟩ : ∃ xs, xs = marks2 a k ++ l.drop k := ⟨_, rfl⟩
      have hxl : xs.length = l.length := by rw [hxs, List.length_append, marks2_length, List.length_drop]; omega
      rw [← hv]
      rw [← hxs] at HO EP
      rw [← hv] at EP
      clear hv hxs
      have e1 : IntKind.i64.wrap (v + 1) = v + 1 := by rw [i64_w]; unfold wrap64; omega
      have e2 : IntKind.i64.wrap (v + 1 + 1) = v + 1 + 1 := by rw [i64_w]; unfold wrap64; omega
      go_wp2_with fail
      obtain ⟨wo, hwo⟩ : ∃ wo : World, wo = wr := ⟨_, rfl⟩
      subst hwo
      go_loopg [1, 6] 2 (fun gg v1 v6 w' => ∃ j : Nat, j ≤ 2 ∧ 2 - j ≤ gg ∧ v6 = .int .i64 j ∧ v1 = .int .i64 (v + (j : Int)) ∧ Aside0 (Kd.R k51 51 w' w0.heap.size (fun k_ => (P k_ ∨ w.heap.size ≤ k_)) (.slice A l.length c) (part2 xs k v j)) ∧ Aside0 (Below w0.heap.size w0 w') ∧ Aside0 (Kept w w' (fun k_ => P k_)))
      case atStart => exact ⟨0, by omega, by omega, rfl, by simp, HO, HB, HK⟩
      case round =>
        obtain ⟨j, hj, hg2, rfl, rfl, HO2, HB2, HK2⟩ := hrel
        have hyl := part2_length xs k v j
        obtain ⟨go, co, eo, gb, gl, cl, HG⟩ := Kd.R_form HO2.out (by omega)
        injection eo with ea en ec
        subst ea
        subst ec
        obtain ⟨ce, hcl, hM, hcc, hfr⟩ := Kd.R_elem HO2.out z51 (k : Int) (by omega) (by omega)
        obtain rfl := k51_openM hM
        have hx0 : wr.cell? ⟨go, k * 2, none⟩ = some (.int .i64 ((rd_T51 (part2 xs k v j) (k : Int)).f0)) := hcc 0 _ rfl
        have hx1 : wr.cell? ⟨go, k * 2 + 1, none⟩ = some (.int .i64 ((rd_T51 (part2 xs k v j) (k : Int)).f1)) := hcc 1 _ rfl
        have hf0 : wr.frozen? ⟨go, k * 2, none⟩ = false := hfr 0
        have hf1 : wr.frozen? ⟨go, k * 2 + 1, none⟩ = false := hfr 1
        match j, hj with
        | 0, _ =>
          have HP := Aside0.mk (Kd.R_seg HO2.out (k : Int) (by omega) (by omega) (seg := [.int .i64 v]) (j := 0) hcl hcc (show 1 ≤ 2 by decide) (x' := (⟨v, (rd_T51 (part2 xs k v 0) (k : Int)).f1⟩ : Two2)) (k51_mkM _ _ _ _) (fun _ hk => hk))
          have HR2 : Aside0 (Kd.R k51 51 (wr.setCell ⟨go, k * 2, none⟩ (.int .i64 v)) w0.heap.size (fun k_ => (P k_ ∨ w.heap.size ≤ k_)) (.slice (some ⟨go, 0, none⟩) l.length c) (part2 xs k v 1)) := ⟨by rw [← part2_step0]; exact HP.out.1⟩
          have HB3 : Aside0 (Below w0.heap.size w0 (wr.setCell ⟨go, k * 2, none⟩ (.int .i64 v))) := ⟨below_set HB2.out gb⟩
          have HK3 : Aside0 (Kept w (wr.setCell ⟨go, k * 2, none⟩ (.int .i64 v)) (fun k_ => P k_)) := ⟨Kept.of_grown (S := fun k_ => P k_) HP.out.2 HK2.out (fun k_ e_ => HO2.out.1 k_ e_)⟩
          have HX := Aside0.mk hxl
          clear hcl hM hcc hfr HP hyl hxl
          generalize (rd_T51 (part2 xs k v 0) (k : Int)).f0 = y0 at hx0
          generalize (rd_T51 (part2 xs k v 0) (k : Int)).f1 = y1 at hx1
          clear gl HG en
          go_wp2
          go_roundg 1
          case measure => omega
          case rel => exact ⟨1, by omega, by omega, rfl, by simp, HR2, HB3, HK3⟩
        | 1, _ =>
          have HP := Aside0.mk (Kd.R_seg HO2.out (k : Int) (by omega) (by omega) (seg := [.int .i64 (v + 1)]) (j := 1) hcl hcc (show 2 ≤ 2 by decide) (x' := (⟨(rd_T51 (part2 xs k v 1) (k : Int)).f0, v + 1⟩ : Two2)) (k51_mkM _ _ _ _) (fun _ hk => hk))
          have HR2 : Aside0 (Kd.R k51 51 (wr.setCell ⟨go, k * 2 + 1, none⟩ (.int .i64 (v + 1))) w0.heap.size (fun k_ => (P k_ ∨ w.heap.size ≤ k_)) (.slice (some ⟨go, 0, none⟩) l.length c) (part2 xs k v 2)) := ⟨by rw [← part2_step1 xs k v (by omega)]; exact HP.out.1⟩
          have HB3 : Aside0 (Below w0.heap.size w0 (wr.setCell ⟨go, k * 2 + 1, none⟩ (.int .i64 (v + 1)))) := ⟨below_set HB2.out gb⟩
          have HK3 : Aside0 (Kept w (wr.setCell ⟨go, k * 2 + 1, none⟩ (.int .i64 (v + 1))) (fun k_ => P k_)) := ⟨Kept.of_grown (S := fun k_ => P k_) HP.out.2 HK2.out (fun k_ e_ => HO2.out.1 k_ e_)⟩
          have HX := Aside0.mk hxl
          clear hcl hM hcc hfr HP hyl hxl
          generalize (rd_T51 (part2 xs k v 1) (k : Int)).f0 = y0 at hx0
          generalize (rd_T51 (part2 xs k v 1) (k : Int)).f1 = y1 at hx1
          clear gl HG en
          go_wp2
          go_roundg 0
          case measure => omega
          case rel => exact ⟨2, by omega, by omega, rfl, by go_num, HR2, HB3, HK3⟩
        | 2, _ =>
          clear hcl hM hcc hfr hx0 hx1 hf0 hf1
          go_wp2
          go_roundg (l.length - (k + 1))
          case measure => omega
          case rel => exact ⟨k + 1, by omega, by omega, by go_num, by have := HV.out; congr 1; omega, ⟨by rw [← EP.out]; exact HO2.out⟩, HB2, HK2⟩
    · have hltz : ¬ (k : Int) < (l.length : Int) := by omega
      have hk' : k = l.length := by omega
      have HOE : Aside0 (Kd.R k51 51 wr w0.heap.size (fun k_ => (P k_ ∨ w.heap.size ≤ k_)) (.slice A l.length c) (marks2 a l.length)) := ⟨by have := HO.out; rw [hk', List.drop_length, List.append_nil] at this; exact this⟩
      have EK : Aside0 ((k : Int) = (l.length : Int)) := ⟨by omega⟩
      clear HO hk'
      go_wp2
      go_ret
      exact ⟨by rw [EK.out]; rfl, HOE.out, HB.out, HK.out⟩
def laws_markInt64A2S.f (l0 : List Two2) (a1 : Int) : Option (Int × List Two2) := if l0.length ≤ 1000 ∧ 0 ≤ a1 ∧ a1 ≤ 1000000 then some (a1 + 2 * (l0.length : Int), marks2 a1 l0.length) else none
theorem laws_markInt64A2S.calls (P0_ : Nat → Prop) (u9000_ : Value) (l0 : List Two2) (a1 : Int) (r1 : Int) (r2 : List Two2) (w0 w : World) (hB : Below w0.heap.size w0 w) (ho0 : Kd.R k51 51 w w0.heap.size P0_ u9000_ l0) (h : laws_markInt64A2S.f l0 a1 = some (r1, r2)) :
    Calls Try.prog 14 #[u9000_, .int .i64 a1] w fun e w' => e = .returned (.int .i64 r1) ∧ Kd.R k51 51 w' w0.heap.size (fun k_ => (P0_ k_ ∨ w.heap.size ≤ k_)) u9000_ r2 ∧ Below w0.heap.size w0 w' ∧ Kept w w' (fun k_ => P0_ k_) := by
  unfold laws_markInt64A2S.f at h
  split at h
  · rename_i hh
    injection h with h
    injection h with h1 h2
    subst h1
    subst h2
    obtain ⟨g1, g2, g3⟩ := hh
    obtain ⟨A, c, rfl⟩ := Kd.R_slice ho0
    exact markA2_is P0_ A c l0 g1 a1 g2 g3 w0 w hB ho0
  · cases h
end Go.Proofs.Ytkcfniilinokgaa.Q
