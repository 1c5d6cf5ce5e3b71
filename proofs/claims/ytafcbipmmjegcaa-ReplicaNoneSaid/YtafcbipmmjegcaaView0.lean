/- Plain mathematics of layer 5: views. -/
import Derived.Test.YtafcbipmmjegcaaBaseC
namespace Go.Proofs.Ytafcbipmmjegcaa
open Go.RowKit
namespace View
structure Mem where
  node : Nat
  life : Nat
  ready : Bool
  deriving DecidableEq
def Mem.cells (m : Mem) : List Value := [.int .u8 m.node, .int .u8 m.life, .bool m.ready]
theorem Mem.cells_len (m : Mem) : m.cells.length = 3 := rfl
def upd (L : Nat → Nat) (k x : Nat) : Nat → Nat := fun i => if i = k then x else L i
structure VS where
  e : Int
  ms : List Mem
  L : Nat → Nat
abbrev VV (e : Int) (A : Option Addr) (n c : Nat) (L : Nat → Nat) : Value :=
  .agg #[.int .u32 e, .slice A n c, .int .u8 (L 0), .int .u8 (L 1), .int .u8 (L 2), .int .u8 (L 3), .int .u8 (L 4), .int .u8 (L 5), .int .u8 (L 6), .int .u8 (L 7)]
/-- the place of a node -/
def atN (ms : List Mem) (x : Nat) : Option Nat := ms.findIdx? (fun m => m.node == x)
def atI (ms : List Mem) (x : Nat) : Int := match atN ms x with | some k => k | none => -1
def ready (ms : List Mem) : Nat := (ms.filter (·.ready)).length
def next (v : VS) (l : List Mem) : VS × Bool := if v.e = 4294967295 then (v, false) else (⟨v.e + 1, l, v.L⟩, true)
def may (v : VS) (node life : Nat) : Bool := decide (1 ≤ node ∧ node ≤ 8 ∧ 1 ≤ life ∧ life ≤ 200 ∧ atN v.ms node = none ∧ v.ms.length < 8 ∧ v.L (node - 1) < life)
def addV (v : VS) (node life : Nat) : VS × Bool :=
  if may v node life then (if v.e = 4294967295 then (v, false) else (⟨v.e + 1, v.ms ++ [⟨node, life, false⟩], upd v.L (node - 1) life⟩, true)) else (v, false)
def removeV (v : VS) (i : Nat) : VS × Bool := if ready (v.ms.eraseIdx i) = 0 then (v, false) else next v (v.ms.eraseIdx i)
def applyV (v : VS) (kind node life : Nat) (epoch : Int) : VS × Bool :=
  if kind = 0 then (v, true) else if kind = 1 then addV v node life else
  match atN v.ms node with
  | none => (v, false)
  | some i =>
    match v.ms[i]? with
    | none => (v, false)
    | some m => if m.life ≠ life then (v, false) else if kind = 2 then removeV v i else if kind = 3 then (⟨v.e, v.ms.set i { m with ready := true }, v.L⟩, true) else (v, decide (kind = 4 ∧ epoch = v.e))

theorem atN_some {ms : List Mem} {x k : Nat} (h : atN ms x = some k) : ∃ hk : k < ms.length, ms[k].node = x ∧ ∀ j (hj : j < k), ms[j].node ≠ x := by
  unfold atN at h
  rw [List.findIdx?_eq_some_iff_getElem] at h
  obtain ⟨hk, h1, h2⟩ := h
  refine ⟨hk, by simpa using h1, fun j hj => by simpa using h2 j hj⟩
theorem atN_none {ms : List Mem} {x : Nat} (h : atN ms x = none) : ∀ k (hk : k < ms.length), ms[k].node ≠ x := fun k hk e => by
  unfold atN at h
  rw [List.findIdx?_eq_none_iff] at h
  have := h ms[k] (by simp)
  simp [e] at this
theorem atI_of {ms : List Mem} {x k : Nat} (hk : k < ms.length) (h1 : ms[k].node = x) (h2 : ∀ j (hj : j < k), ms[j].node ≠ x) : atI ms x = k := by
  have : atN ms x = some k := by
    unfold atN
    rw [List.findIdx?_eq_some_iff_getElem]
    exact ⟨hk, by simpa using h1, fun j hj => by simpa using h2 j hj⟩
  simp [atI, this]
theorem atI_none {ms : List Mem} {x : Nat} (h : ∀ k (hk : k < ms.length), ms[k].node ≠ x) : atI ms x = -1 := by
  have : atN ms x = none := by
    unfold atN
    rw [List.findIdx?_eq_none_iff]
    intro m hm
    obtain ⟨k, hk, rfl⟩ := List.mem_iff_getElem.1 hm
    simpa using h k hk
  simp [atI, this]
theorem atI_lt (ms : List Mem) (x : Nat) : atI ms x < ms.length ∧ -1 ≤ atI ms x := by
  unfold atI
  split
  · rename_i k hk; obtain ⟨h, _⟩ := atN_some hk; omega
  · omega
theorem ready_le (ms : List Mem) : ready ms ≤ ms.length := List.length_filter_le _ _
theorem ready_snoc (ms : List Mem) (m : Mem) : ready (ms ++ [m]) = ready ms + if m.ready then 1 else 0 := by
  unfold ready
  rw [List.filter_append, List.length_append]
  cases h : m.ready <;> simp [h]
theorem ready_take {ms : List Mem} {k : Nat} (h : k < ms.length) : ready (ms.take (k + 1)) = ready (ms.take k) + if ms[k].ready then 1 else 0 := by
  rw [List.take_succ_eq_append_getElem h, ready_snoc]
end View
end Go.Proofs.Ytafcbipmmjegcaa
