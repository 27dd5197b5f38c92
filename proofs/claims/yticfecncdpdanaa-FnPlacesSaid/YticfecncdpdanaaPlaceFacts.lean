/- What the law FnPlaces needs of the places and of the scans: facts over lists alone. -/
import Derived.Test.YticfecncdpdanaaPAll
import Derived.Test.YticfecncdpdanaaDrawP
set_option linter.unusedVariables false
set_option linter.unusedSimpArgs false
namespace Go.Proofs.Yticfecncdpdanaa.Q
open Go.RowKit Go.Proofs.YticfecncdpdanaaW.PrintWords
/-- Whether a parcel can be at station x, from the hours of its arrivals there. -/
def canB (t a0 a1 v : Int) (x : Nat) (H : List Int) : Bool := (decide ((x : Int) = a0) && decide (a1 + v ≤ a1 + t)) || H.any (fun h => decide (h ≤ a1 + v) && decide (a1 + v ≤ h + t))
/-- What the law's first half needs. -/
structure PlaceF (K : Nat) (s t : Int) (ls : List S44) (a0 a1 v : Int) (P L : List Int) : Prop where
  w1 : impl_WhereAt.f s t ls a0 a1 (a1 + v) = some (P, L, 0)
  w2 : spec_WhereAt.f s t ls a0 a1 (a1 + v) = some (P, L, 0)
  sp : spec_SameNumbers.f K P P = some true
  sl : spec_SameNumbers.f K L L = some true
  arr : ∀ x : Nat, (x : Int) < s → ∃ H, spec_ArrivalsAt.f s t ls a0 a1 (x : Int) = some (H, 0) ∧ (∀ h ∈ H, 0 ≤ h ∧ h ≤ 300) ∧ H.length ≤ 301 ∧ spec_HasNumber.f K P (x : Int) = some (canB t a0 a1 v x H)
  wlen : L.length ≤ 1000
  ways : ∀ y ∈ L, 0 ≤ y ∧ y < (ls.length : Int) ∧ 2 ≤ (ls.getD y.toNat z44).f3
/-- What the law's second half needs. -/
structure ScanF (K : Nat) (s t : Int) (ls : List S44) (y0 y1 : List Int) (a1 v : Int) (X D : List S31) (F M : List Int) (C : List S31) (fine : Bool) (bi bc q lc : Int) (late : Bool) : Prop where
  x : spec_P6Scans.f K y0 s t ls = some X
  xl : X.length ≤ 4
  s1 : impl_SortScans.f s t ls X = some (D, 0)
  s2 : spec_SortScans.f s t ls X = some (D, 0)
  dl : D.length = X.length
  fi : impl_CheckScans.f s t ls D = some (fine, 0)
  b1 : impl_FirstBadScan.f s t ls D = some (bi, bc)
  b2 : spec_FirstBadScan.f s t ls D = some (bi, bc)
  bf : (fine = true ∧ bc = 6) ∨ (fine = false ∧ bc = 0)
  f1 : impl_FalseScans.f s t ls D = some (F, 0)
  f2 : spec_FalseScans.f s t ls D = some (F, 0)
  m1 : impl_MostScans.f s t ls D = some (M, 0)
  m2 : spec_MostScans.f s t ls D = some (M, 0)
  ss : spec_SameScans.f K D D = some true
  sf : spec_SameNumbers.f K F F = some true
  sm : spec_SameNumbers.f K M M = some true
  fm : fine = true ↔ M.length = D.length
  less : 0 < F.length → D.length ≤ M.length + 1
  pos : 0 < D.length → 0 < M.length
  fl : F.length ≤ 4
  ml : M.length ≤ D.length
  low : ∀ i, i < M.length → ∃ k : Nat, M.getD i 0 = (k : Int) ∧ k < D.length
  c : C = M.map fun k => D.getD k.toNat z31
  ok : impl_CheckScans.f s t ls C = some (true, 0)
  each : ∀ i, i < D.length → ∃ r, impl_CheckScans.f s t ls (D.take i ++ D.drop (i + 1)) = some (r, 0) ∧ spec_HasNumber.f K F (i : Int) = some r
  ris : ∀ i, i + 1 < D.length → (D.getD i z31).f1 ≤ (D.getD (i + 1) z31).f1
  pk : spec_P6Pick.f y1 s = some q
  q0 : 0 ≤ q
  q1 : q < s
  l1 : impl_IsLate.f s t ls C q (a1 + v) = some (late, lc)
  l2 : spec_IsLate.f s t ls C q (a1 + v) = some (late, lc)
  lc : (lc = 0 ∧ 0 < C.length) ∨ (lc = 4 ∧ C.length = 0)
  soon : 0 < C.length → ∃ E, spec_EarliestAt.f s t ls (C.getD (C.length - 1) z31).f0 (C.getD (C.length - 1) z31).f1 = some (E, 0) ∧ (E.length : Int) = s ∧ (late = true → E.getD q.toNat 0 < 0 ∨ a1 + v < E.getD q.toNat 0)
end Go.Proofs.Yticfecncdpdanaa.Q
