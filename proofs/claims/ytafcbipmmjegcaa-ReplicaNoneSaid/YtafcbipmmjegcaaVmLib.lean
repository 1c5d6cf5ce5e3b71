/- Trees: what the functions' proofs share. -/
import Derived.Test.YtafcbipmmjegcaaVm10
import Derived.Test.YtafcbipmmjegcaaProg
import Derived.KernelRfl
import Derived.IntWalk
namespace Go.Proofs.Ytafcbipmmjegcaa.Vm
open Go Go.RowKit
def u8 (n : Int) : T := .v (.int .u8 n)
def u32 (n : Int) : T := .v (.int .u32 n)
def u64 (n : Int) : T := .v (.int .u64 n)
def int (n : Int) : T := .v (.int .i64 n)
def bool (b : Bool) : T := .v (.bool b)
def none_ : Glb := fun _ => none
def frame (n : Nat) (l : List (Nat × T)) : List T := (List.range n).map fun i => (l.lookup i).getD .und
theorem wrap_i64 {x : Int} (h0 : -9223372036854775808 ≤ x) (h1 : x ≤ 9223372036854775807) : IntKind.wrap .i64 x = x := IntWalk.i64_in _ (by omega)
theorem mid_get {α : Type} (d r : List α) (x : α) : (d ++ x :: r)[d.length]? = some x := by simp
/-- a call that only tells something -/
def told (r : T) (sel : List Nat) (ob : Obs) : Hint := .call false Unit (fun _ => True) sel false (fun _ => r) (fun _ => ob) (fun _ => none_)
theorem told_post {r r' : T} {sel : List Nat} {ob ob' : Obs} {gl' : Glb} (hr : r' = r) (hl : sel.length ≤ ob.length := by exact Nat.le_of_ble_eq_true rfl) (ho : ob' = ob := by rfl) : callPost (.call false Unit (fun _ => True) sel false (fun _ => r) (fun _ => ob) (fun _ => none_)) r' ob' gl' :=
  ⟨(), trivial, hr, ho, ho ▸ hl, fun e => by cases e⟩
/-- a call that tells something, beside objects of all kinds -/
def toldG (r : T) (sel : List Nat) (ob : Obs) (gl : Glb) : Hint := .call false Unit (fun _ => True) sel true (fun _ => r) (fun _ => ob) (fun _ => gl)
theorem toldG_post {r r' : T} {sel : List Nat} {ob ob' : Obs} {gl gl' : Glb} (hr : r' = r) (hl : sel.length ≤ ob.length := by exact Nat.le_of_ble_eq_true rfl) (ho : ob' = ob := by rfl) (hg : gl' = gl := by rfl) : callPost (.call false Unit (fun _ => True) sel true (fun _ => r) (fun _ => ob) (fun _ => gl)) r' ob' gl' :=
  ⟨(), trivial, hr, ho, ho ▸ hl, fun _ => hg⟩
end Go.Proofs.Ytafcbipmmjegcaa.Vm
