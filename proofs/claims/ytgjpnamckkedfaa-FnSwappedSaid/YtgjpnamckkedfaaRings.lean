/- Rings of swapped parcels over lists alone; a set of indexes kept in a map[int]bool. -/
import Derived.Test.YtgjpnamckkedfaaOBase
import Derived.Maps.Own
import Derived.Maps.OwnOps
import Derived.Maps.OwnSet
import Derived.Maps.Views
set_option linter.unusedVariables false
set_option linter.unusedSimpArgs false
namespace Go.Proofs.Ytgjpnamckkedfaa.Q
open Go.RowKit Go.Proofs.YtgjpnamckkedfaaW.PrintWords Go.Proofs.YtgjpnamckkedfaaW.PrintLast Go.Proofs.YtgjpnamckkedfaaW.PrintMore
open Go.Maps (Keyed)
/-- The first index of a number, counted on from i; -1 where there is none. -/
def whereF (x : Int) : List Int → Int → Int
  | [], _ => -1
  | y :: r, i => if y = x then i else whereF x r (i + 1)
def whereL (l : List Int) (x : Int) : Int := whereF x l 0
theorem whereF_step (l : List Int) (x : Int) (k : Nat) (h : k < l.length) : whereF x (l.drop k) k = if l.getD k 0 = x then (k : Int) else whereF x (l.drop (k + 1)) ((k + 1 : Nat) : Int) := by
  rw [drop_cons_of l 0 k h, whereF]
  simp
theorem whereF_end (l : List Int) (x : Int) (k : Nat) (h : l.length ≤ k) : whereF x (l.drop k) k = -1 := by
  rw [List.drop_of_length_le h]; rfl
theorem whereF_in (x : Int) : ∀ (l : List Int) (i : Int), x ∈ l → ∃ j : Nat, j < l.length ∧ whereF x l i = i + j ∧ l.getD j 0 = x
  | [], _, h => by simp at h
  | y :: r, i, h => by
    rw [whereF]
    by_cases hy : y = x
    · rw [if_pos hy]; exact ⟨0, by simp, by simp, by simpa using hy⟩
    · rw [if_neg hy]
      obtain ⟨j, h1, h2, h3⟩ := whereF_in x r (i + 1) (by rcases List.mem_cons.1 h with e | e; exact absurd e.symm hy; exact e)
      exact ⟨j + 1, by simp; omega, by rw [h2]; omega, by simpa using h3⟩
theorem whereL_in {l : List Int} {x : Int} (h : x ∈ l) : ∃ j : Nat, j < l.length ∧ whereL l x = j ∧ l.getD j 0 = x := by
  obtain ⟨j, h1, h2, h3⟩ := whereF_in x l 0 h
  exact ⟨j, h1, by unfold whereL; rw [h2]; omega, h3⟩
/-- One ring: on from k until a parcel that has been met. -/
def ringL (W G : List Int) : Nat → List Bool → List Int → Nat → List Int × List Bool
  | 0, met, acc, _ => (acc, met)
  | f + 1, met, acc, k => if met.getD k false = true then (acc, met) else ringL W G f (met.set k true) (acc ++ [(k : Int)]) (whereL W (G.getD k 0)).toNat
def outI (W G : List Int) : Nat → List Bool → List (List Int) → Nat → List (List Int)
  | 0, _, out, _ => out
  | s + 1, met, out, i => outI W G s (ringL W G (W.length + 1) met [] i).2 (if 1 < (ringL W G (W.length + 1) met [] i).1.length then out ++ [(ringL W G (W.length + 1) met [] i).1] else out) (i + 1)
def ringsI (W G : List Int) : List (List Int) := outI W G W.length (List.replicate W.length false) [] 0
theorem ringL_stop (W G : List Int) (f : Nat) (met : List Bool) (acc : List Int) (k : Nat) (h : met.getD k false = true) : ringL W G f met acc k = (acc, met) := by
  cases f with
  | zero => rfl
  | succ f => rw [ringL, if_pos h]
theorem ringL_go (W G : List Int) (f : Nat) (met : List Bool) (acc : List Int) (k : Nat) (h : met.getD k false = false) : ringL W G (f + 1) met acc k = ringL W G f (met.set k true) (acc ++ [(k : Int)]) (whereL W (G.getD k 0)).toNat := by
  rw [ringL, if_neg (by simp only [h]; decide)]
theorem unmet_set (met : List Bool) (k : Nat) (hk : k < met.length) (h : met.getD k false = false) : (met.set k true).count false + 1 = met.count false := by
  rw [List.getD_eq_getElem?_getD, List.getElem?_eq_getElem hk] at h
  simp only [Option.getD_some] at h
  have h1 : 0 < met.count false := List.count_pos_iff.2 (by rw [← h]; exact List.getElem_mem hk)
  rw [List.count_set hk, h]
  simp
  omega
theorem getD_set (met : List Bool) (k j : Nat) (hk : k < met.length) : (met.set k true).getD j false = if j = k then true else met.getD j false := by
  simp only [List.getD_eq_getElem?_getD, List.getElem?_set]
  by_cases h : k = j
  · subst h; simp [hk]
  · rw [if_neg h, if_neg (fun e => h e.symm)]
theorem lookup_bool {P : Program} (w : World) {ops : Array Oper} {rest : List Oper} {o : Oper} {a : Act} {Q : Exit → Act → World → Prop}
    (hg : o.guard = none) (m x : Operand) (t : TypeId) (hop : o.op = Op.lookup t m x false)
    (k e : TypeId) (K : Keyed P k) (ht : P.underlying t = some (.map k e)) (he : P.underlying e = some .bool) (hz : (zeroValue e).run P w = .ok (.bool false) w) (b n : Nat) (D : DataW Unit)
    (hm : a.eval m = .map (some b)) (hown : w.ownsMap P k (plainElem P e) b n D) (key : Value) (kl : Lit) (hx : a.eval x = key) (hkey : keyOf P k key = some kl) (c : Bool) (hat : D.atKey kl (.lit (.bool false)) = .lit (.bool c))
    (hK : wpList P ops Q rest (a.put o.dst (.bool c)) w) :
    wpList P ops Q (o :: rest) a w := by
  refine wpList_plain hg fun K' hK' => ?_
  obtain ⟨v, ps, hrun, hv⟩ := hown.lookup K ht hz (plainElem_bool he false) hkey
  rw [hat] at hv
  have hv' : v = .bool c := by
    unfold plainElem at hv
    rw [he] at hv
    cases v <;> simp at hv
    rw [hv.1]
  subst hv'
  unfold Oper.wp
  simp [execOp, hop, hm, hx, hrun, Result.andThen]
  exact hK' _ _ hK
/-- The map holds true at the indexes that have been met. -/
structure MetAt (w : World) (b : Nat) (met : List Bool) : Prop where
  mk ::
  out : ∃ (n : Nat) (D : DataW Unit), w.ownsMap Try.prog 3 (plainElem Try.prog 4) b n D ∧ n + met.count false ≤ 9 ∧ ∀ j : Nat, j < met.length → D.atKey (.int .i64 j) (.lit (.bool false)) = .lit (.bool (met.getD j false))
theorem MetAt.start (w : World) (n b : Nat) (hb : b = w.heap.size) (hn : n ≤ 9) : MetAt (w.alloc (.map #[] 0)) b (List.replicate n false) := by
  subst hb
  refine ⟨0, .map [], World.ownsMap_made _ _ _ _, by simp; exact hn, fun j hj => ?_⟩
  have : (List.replicate n false).getD j false = false := by
    rw [List.getD_eq_getElem?_getD, List.getElem?_replicate]
    split <;> rfl
  rw [this]
  rfl
theorem MetAt.kept {w w' : World} {b : Nat} {met : List Bool} {row : Option Nat} (h : MetAt w b met) (hg : w.grownBy w' row) (hne : some b ≠ row) : MetAt w' b met := by
  obtain ⟨n, D, h1, h2, h3⟩ := h.out
  exact ⟨n, D, h1.kept hg hne, h2, h3⟩
theorem MetAt.isMap {w : World} {b : Nat} {met : List Bool} (h : MetAt w b met) : ∃ es clock, w.heap[b]? = some (.map es clock) := by
  obtain ⟨n, D, ⟨es, clock, hb, _⟩, h2, h3⟩ := h.out
  exact ⟨es, clock, hb⟩
theorem MetAt.lt {w : World} {b : Nat} {met : List Bool} (h : MetAt w b met) : b < w.heap.size := by
  obtain ⟨n, D, h1, h2, h3⟩ := h.out
  exact h1.lt
/-- A row that is of cells is not the map's block. -/
theorem MetAt.not_row {w : World} {b : Nat} {met : List Bool} (h : MetAt w b met) {v : Value} {e : TypeId} (hv : ∀ k, v.ownBlock = some k → ∃ cells, w.heap[k]? = some (.cells cells e (0, 0))) : some b ≠ v.ownBlock := by
  intro he
  obtain ⟨cells, hc⟩ := hv b he.symm
  obtain ⟨es, clock, hm⟩ := h.isMap
  rw [hm] at hc
  cases hc
theorem small_wf (k : Nat) (h : k < 1048576) : (Lit.int .i64 (k : Int)).wf = true := by
  have : wrap64 (k : Int) = k := by unfold wrap64; omega
  rw [← this]
  exact wrap64_wf _
theorem met_lookup (w : World) {ops : Array Oper} {rest : List Oper} {o : Oper} {a : Act} {Q : Exit → Act → World → Prop}
    (hg : o.guard = none) (m x : Operand) (hop : o.op = Op.lookup 37 m x false) (b : Nat) (met : List Bool) (hm : a.eval m = .map (some b)) (h : MetAt w b met) (k : Nat) (hk : k < met.length) (hk2 : k < 1048576) (hx : a.eval x = .int .i64 k) (c : Bool) (hc : met.getD k false = c)
    (hK : wpList Try.prog ops Q rest (a.put o.dst (.bool c)) w) : wpList Try.prog ops Q (o :: rest) a w := by
  obtain ⟨n, D, h1, h2, h3⟩ := h.out
  exact lookup_bool w hg m x 37 hop 3 4 (Maps.int_keyed Try.underlying3) Try.underlying37 Try.underlying4 (Try.zeroValue4 _) b n D hm h1 _ (.int .i64 k) hx (Maps.keyOf_int_mk Try.underlying3 (small_wf k hk2)) c (by rw [h3 k hk, hc]) hK
theorem met_update (w : World) {ops : Array Oper} {rest : List Oper} {o : Oper} {a : Act} {Q : Exit → Act → World → Prop}
    (hg : o.guard = none) (m x v : Operand) (hop : o.op = Op.mapUpdate 37 m x v) (b : Nat) (met : List Bool) (hm : a.eval m = .map (some b)) (h : MetAt w b met) (k : Nat) (hk : k < met.length) (hk2 : k < 1048576) (hf : met.getD k false = false) (hx : a.eval x = .int .i64 k) (hv : a.eval v = .bool true)
    (hK : ∀ w', MetAt w' b (met.set k true) → w.grownBy w' (some b) → wpList Try.prog ops Q rest (a.put o.dst undef) w') : wpList Try.prog ops Q (o :: rest) a w := by
  obtain ⟨n, D, h1, h2, h3⟩ := h.out
  refine wpList_mapUpdate_own w hg m x v 37 hop 3 4 (Maps.int_keyed Try.underlying3) Try.underlying37 (plainElem Try.prog 4) b n D hm h1 (by unfold maxLen; have := unmet_set met k hk hf; omega) _ _ (.int .i64 k) hx hv (Maps.keyOf_int_mk Try.underlying3 (small_wf k hk2)) (.lit (.bool true)) [] (plainElem_bool Try.underlying4 true) ?_
  intro w' o1 g1
  refine hK w' ⟨n + 1, _, o1, by have := unmet_set met k hk hf; omega, fun j hj => ?_⟩ g1
  rw [List.length_set] at hj
  rw [getD_set met k j hk]
  by_cases hjk : j = k
  · subst hjk
    rw [if_pos rfl, Maps.atKey_put_same h1.isMap (by simp [WideAt.IsKeyLit])]
  · rw [if_neg hjk, Maps.atKey_put_other (fun e => hjk (by injection e with e1 e2; omega)), h3 j hj]
end Go.Proofs.Ytgjpnamckkedfaa.Q
