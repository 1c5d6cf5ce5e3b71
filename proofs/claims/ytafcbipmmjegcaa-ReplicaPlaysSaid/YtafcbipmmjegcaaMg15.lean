/- Texts of this claim: VmLib, Tm, Str, View0. -/
import Derived.Test.YtafcbipmmjegcaaMg13
import Derived.Test.YtafcbipmmjegcaaProg
import Derived.KernelRfl
import Derived.IntWalk
import Derived.Test.YtafcbipmmjegcaaMg1
namespace Go.Proofs.Ytafcbipmmjegcaa.Vm
open Go Go.RowKit
def u8 (n : Int) : T := .v (.int .u8 n)
def u32 (n : Int) : T := .v (.int .u32 n)
def int (n : Int) : T := .v (.int .i64 n)
def bool (b : Bool) : T := .v (.bool b)
def none_ : Glb := fun _ => none
def frame (n : Nat) (l : List (Nat × T)) : List T := (List.range n).map fun i => (l.lookup i).getD .und
theorem wrap_i64 {x : Int} (h0 : -9223372036854775808 ≤ x) (h1 : x ≤ 9223372036854775807) : IntKind.wrap .i64 x = x := IntWalk.i64_in _ (by omega)
def told (r : T) (sel : List Nat) (ob : Obs) : Hint := .call false Unit (fun _ => True) sel false (fun _ => r) (fun _ => ob) (fun _ => none_)
theorem told_post {r r' : T} {sel : List Nat} {ob ob' : Obs} {gl' : Glb} (hr : r' = r) (hl : sel.length ≤ ob.length := by exact Nat.le_of_ble_eq_true rfl) (ho : ob' = ob := by rfl) : callPost (.call false Unit (fun _ => True) sel false (fun _ => r) (fun _ => ob) (fun _ => none_)) r' ob' gl' :=
  ⟨(), trivial, hr, ho, ho ▸ hl, fun e => by cases e⟩
def toldG (r : T) (sel : List Nat) (ob : Obs) (gl : Glb) : Hint := .call false Unit (fun _ => True) sel true (fun _ => r) (fun _ => ob) (fun _ => gl)
theorem toldG_post {r r' : T} {sel : List Nat} {ob ob' : Obs} {gl gl' : Glb} (hr : r' = r) (hl : sel.length ≤ ob.length := by exact Nat.le_of_ble_eq_true rfl) (ho : ob' = ob := by rfl) (hg : gl' = gl := by rfl) : callPost (.call false Unit (fun _ => True) sel true (fun _ => r) (fun _ => ob) (fun _ => gl)) r' ob' gl' :=
  ⟨(), trivial, hr, ho, ho ▸ hl, fun _ => hg⟩
end Go.Proofs.Ytafcbipmmjegcaa.Vm
namespace Go.Proofs.Ytafcbipmmjegcaa.Vm
open Go Go.RowKit
theorem Ya {p q : Prop} (h : p) (k : q) : p ∧ q := ⟨h, k⟩
theorem Ye {α : Type _} (a : α) : a = a := rfl
theorem Yn (a b : Nat) (h : Nat.ble a b = true) : a ≤ b := Nat.le_of_ble_eq_true h
theorem Ys {A B : Prop} (c : Bool) (f : c = true → A) (g : c = false → B) : bsplit c A B := bsplit_mk f g
theorem Yu {p : Prop} (h : p) : Unit → True → p := fun _ _ => h
theorem Yt : True := True.intro
theorem Yb {α : Type _} {q : Prop} (a : α) (k : q) : a = a ∧ q := ⟨rfl, k⟩
theorem Yi {q : Prop} (k : Int) (n : Nat) (h : 0 ≤ k ∧ k < (n : Int)) (x : q) : (0 ≤ k ∧ k < (n : Int)) ∧ q := ⟨h, x⟩
def Hint.bare : Hint → Hint
  | .plainAt _ h => h.bare
  | .plain h => h.bare
  | h => h
abbrev Hint.P (h : Hint) : T → Obs → Glb → Prop := callPost h.bare
theorem Yk {q : Prop} (n b : Nat) (k : q) : (n = n ∧ true = true) ∧ b = b ∧ n ≤ n ∧ q := ⟨⟨rfl, rfl⟩, rfl, Nat.le_refl n, k⟩
theorem Yl {q : Prop} (n : Nat) (k : q) : (n = n ∧ true = true) ∧ q := ⟨⟨rfl, rfl⟩, k⟩
end Go.Proofs.Ytafcbipmmjegcaa.Vm
namespace Go.Proofs.Ytafcbipmmjegcaa.Vm
open Go Go.RowKit
def str (l : List UInt8) : T := .v (.string ⟨l.toArray⟩)
end Go.Proofs.Ytafcbipmmjegcaa.Vm
namespace Go.Proofs.Ytafcbipmmjegcaa
open Go.RowKit
namespace View
structure Mem where
  node : Nat
  life : Nat
  ready : Bool
  deriving DecidableEq
def Mem.cells (m : Mem) : List Value := [.int .u8 m.node, .int .u8 m.life, .bool m.ready]
def upd (L : Nat → Nat) (k x : Nat) : Nat → Nat := fun i => if i = k then x else L i
structure VS where
  e : Int
  ms : List Mem
  L : Nat → Nat
def atN (ms : List Mem) (x : Nat) : Option Nat := ms.findIdx? (fun m => m.node == x)
def atI (ms : List Mem) (x : Nat) : Int := match atN ms x with | some k => k | none => -1
def ready (ms : List Mem) : Nat := (ms.filter (·.ready)).length
def next (v : VS) (l : List Mem) : VS × Bool := if v.e = 4294967295 then (v, false) else (⟨v.e + 1, l, v.L⟩, true)
def may (v : VS) (node life : Nat) : Bool := decide (1 ≤ node ∧ node ≤ 8 ∧ 1 ≤ life ∧ life ≤ 200 ∧ atN v.ms node = none ∧ v.ms.length < 8 ∧ v.L (node - 1) < life)
def addV (v : VS) (node life : Nat) : VS × Bool :=
  if may v node life then (if v.e = 4294967295 then (v, false) else (⟨v.e + 1, v.ms ++ [⟨node, life, false⟩], upd v.L (node - 1) life⟩, true)) else (v, false)
def removeV (v : VS) (i : Nat) : VS × Bool := if ready (v.ms.eraseIdx i) = 0 then (v, false) else next v (v.ms.eraseIdx i)
def applyV (v : VS) (kind node life : Nat) (epoch : Int) : VS × Bool :=
  if kind = 0 then (v, true) else if kind = 1 then addV v node life else
  match atN v.ms node with
  | none => (v, false)
  | some i =>
    match v.ms[i]? with
    | none => (v, false)
    | some m => if m.life ≠ life then (v, false) else if kind = 2 then removeV v i else if kind = 3 then (⟨v.e, v.ms.set i { m with ready := true }, v.L⟩, true) else (v, decide (kind = 4 ∧ epoch = v.e))
theorem atN_some {ms : List Mem} {x k : Nat} (h : atN ms x = some k) : ∃ hk : k < ms.length, ms[k].node = x ∧ ∀ j (hj : j < k), ms[j].node ≠ x := by
  unfold atN at h
  rw [List.findIdx?_eq_some_iff_getElem] at h
  obtain ⟨hk, h1, h2⟩ := h
  refine ⟨hk, by simpa using h1, fun j hj => by simpa using h2 j hj⟩
theorem atN_none {ms : List Mem} {x : Nat} (h : atN ms x = none) : ∀ k (hk : k < ms.length), ms[k].node ≠ x := fun k hk e => by
  unfold atN at h
  rw [List.findIdx?_eq_none_iff] at h
  have := h ms[k] (by simp)
  simp [e] at this
theorem atI_of {ms : List Mem} {x k : Nat} (hk : k < ms.length) (h1 : ms[k].node = x) (h2 : ∀ j (hj : j < k), ms[j].node ≠ x) : atI ms x = k := by
  have : atN ms x = some k := by
    unfold atN
    rw [List.findIdx?_eq_some_iff_getElem]
    exact ⟨hk, by simpa using h1, fun j hj => by simpa using h2 j hj⟩
  simp [atI, this]
theorem atI_none {ms : List Mem} {x : Nat} (h : ∀ k (hk : k < ms.length), ms[k].node ≠ x) : atI ms x = -1 := by
  have : atN ms x = none := by
    unfold atN
    rw [List.findIdx?_eq_none_iff]
    intro m hm
    obtain ⟨k, hk, rfl⟩ := List.mem_iff_getElem.1 hm
    simpa using h k hk
  simp [atI, this]
theorem atI_lt (ms : List Mem) (x : Nat) : atI ms x < ms.length ∧ -1 ≤ atI ms x := by
  unfold atI
  split
  · rename_i k hk; obtain ⟨h, _⟩ := atN_some hk; omega
  · omega
theorem ready_le (ms : List Mem) : ready ms ≤ ms.length := List.length_filter_le _ _
theorem ready_snoc (ms : List Mem) (m : Mem) : ready (ms ++ [m]) = ready ms + if m.ready then 1 else 0 := by
  unfold ready
  rw [List.filter_append, List.length_append]
  cases h : m.ready <;> simp [h]
end View
end Go.Proofs.Ytafcbipmmjegcaa
