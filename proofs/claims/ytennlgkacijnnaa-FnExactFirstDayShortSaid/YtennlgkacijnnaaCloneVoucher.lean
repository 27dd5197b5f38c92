/- slices.Clone at i.Voucher: a slice of its own that holds the same elements; nil stays nil. For slices of at most 1048576 elements. -/
import Derived.Test.YtennlgkacijnnaaRows2
set_option linter.unusedVariables false
set_option linter.unusedSimpArgs false
namespace Go.Proofs.Ytennlgkacijnnaa.Q
open Go.RowKit Go.Proofs.YtennlgkacijnnaaW.PrintWords Go.Proofs.YtennlgkacijnnaaW.PrintLast Go.Proofs.YtennlgkacijnnaaW.PrintMore
set_option maxHeartbeats 1000000 in
set_option maxRecDepth 100000 in
theorem clone_Voucher (A : Option Addr) (c : Nat) (l : List S87) (w : World) (hr : Kd.C k87 w A l.length l) (hc : l.length ≤ c) (hl : l.length ≤ 1048576) :
    Calls Try.prog 105 #[.slice A l.length c] w fun e w' => ∃ v : Value, e = .returned v ∧ Kd.R k87 87 w' w.heap.size (fun _ => True) v l ∧ Below w.heap.size w w' := by
  have HR := Aside0.mk hr
  cases A with
  | none =>
    have hn : l = [] := by
      cases l with
      | nil => rfl
      | cons x r =>
        obtain ⟨a, ha, _⟩ := hr.2.2 (by simp)
        cases ha
    subst hn
    clear hr HR
    have hq := fun w => Lib.run_eql_slice_nil (P := Try.prog) w 33 87 none 0 c 0 0 Try.underlying33
    rw [List.length_nil]
    go_enter Try.func105, Try.ntmps105
    go_wp2
    go_ret
    exact ⟨_, rfl, Kd.R_nil _ _ _ _ _, Below.refl _ _⟩
  | some a =>
    clear hr
    have hq := fun w => Lib.run_eql_slice_nil (P := Try.prog) w 33 87 (some a) l.length c 0 0 Try.underlying33
    have HO : Aside0 (Kd.R k87 87 (w.alloc (.cells #[] 87)) w.heap.size (fun _ => True) (.slice (some ⟨w.heap.size, 0, none⟩) 0 0) ([] : List S87)) := ⟨R_empty k87 87 w w.heap.size _ _ rfl (Nat.le_refl _) trivial⟩
    go_enter Try.func105, Try.ntmps105
    go_wp2_with (at_builtin; refine Kd.R_append_rows k87 (w0 := w) w.heap.size rfl (.tmp 5) (.tmp 6) 33 87 (.agg #[.int .i32 0, .int .i16 0]) 8 rfl Try.underlying33 info87 rfl (by decide) (by omega) _ ([] : List S87) l _ _ _ (fun _ => True) (fun _ => False) rfl rfl HO.out ?aR (fun _ _ h => h) (fun _ h => h.elim) (fun _ _ => trivial) ?aB ?aS ?aL ?_; (case aR => exact Kd.C_alloc HR.out _); (case aB => exact (Below.refl _ _).alloc (Nat.le_refl _) _); (case aS => simp); (case aL => simp; omega); intro v1 w1 ho hb hg hat)
    have HV := Aside0.mk ho
    have HB := Aside0.mk hb
    clear ho hb hg hat HO
    go_wp2
    go_ret
    exact ⟨_, rfl, HV.out, HB.out⟩
end Go.Proofs.Ytennlgkacijnnaa.Q
