/- slices.Clone at i.Scan: a slice of its own that holds the same elements; nil stays nil. For slices of at most 1048576 elements. -/
import Derived.Test.YtjcokfdafingeaaRows2
set_option linter.unusedVariables false
set_option linter.unusedSimpArgs false
namespace Go.Proofs.Ytjcokfdafingeaa.Q
open Go.RowKit Go.Proofs.YtjcokfdafingeaaW.PrintWords Go.Proofs.YtjcokfdafingeaaW.PrintLast Go.Proofs.YtjcokfdafingeaaW.PrintMore
set_option maxHeartbeats 1000000 in
set_option maxRecDepth 100000 in
theorem clone_Scan (A : Option Addr) (c : Nat) (l : List S47) (w : World) (hr : Kd.C k47 w A l.length l) (hc : l.length ≤ c) (hl : l.length ≤ 1048576) :
    Calls Try.prog 69 #[.slice A l.length c] w fun e w' => ∃ v : Value, e = .returned v ∧ Kd.R k47 47 w' w.heap.size (fun _ => True) v l ∧ Below w.heap.size w w' := by
  have HR := Aside0.mk hr
  cases A with
  | none =>
    have hn : l = [] := by
      cases l with
      | nil => rfl
      | cons x r =>
        obtain ⟨a, ha, _⟩ := hr.2.2 (by simp)
        cases ha
    subst hn
    clear hr HR
    have hq := fun w => Lib.run_eql_slice_nil (P := Try.prog) w 53 47 none 0 c 0 0 Try.underlying53
    rw [List.length_nil]
    go_enter Try.func69, Try.ntmps69
    go_wp2
    go_ret
    exact ⟨_, rfl, Kd.R_nil _ _ _ _ _, Below.refl _ _⟩
  | some a =>
    clear hr
    have hq := fun w => Lib.run_eql_slice_nil (P := Try.prog) w 53 47 (some a) l.length c 0 0 Try.underlying53
    have HO : Aside0 (Kd.R k47 47 (w.alloc (.cells #[] 47)) w.heap.size (fun _ => True) (.slice (some ⟨w.heap.size, 0, none⟩) 0 0) ([] : List S47)) := ⟨R_empty k47 47 w w.heap.size _ _ rfl (Nat.le_refl _) trivial⟩
    go_enter Try.func69, Try.ntmps69
    go_wp2_with (at_builtin; refine Kd.R_append_rows k47 (w0 := w) w.heap.size rfl (.tmp 5) (.tmp 6) 53 47 (.agg #[.int .i8 0, .int .i16 0]) 4 rfl Try.underlying53 info47 rfl (by decide) (by omega) _ ([] : List S47) l _ _ _ (fun _ => True) (fun _ => False) rfl rfl HO.out ?aR (fun _ _ h => h) (fun _ h => h.elim) (fun _ _ => trivial) ?aB ?aS ?aL ?_; (case aR => exact Kd.C_alloc HR.out _); (case aB => exact (Below.refl _ _).alloc (Nat.le_refl _) _); (case aS => simp); (case aL => simp; omega); intro v1 w1 ho hb hg hat)
    have HV := Aside0.mk ho
    have HB := Aside0.mk hb
    clear ho hb hg hat HO
    go_wp2
    go_ret
    exact ⟨_, rfl, HV.out, HB.out⟩
end Go.Proofs.Ytjcokfdafingeaa.Q
