/- Sessions: what the laws' loops share. -/
import Derived.Test.YtaepgceodcdnhaaSG
import Derived.Test.YtaepgceodcdnhaaSes1
import Derived.Test.YtaepgceodcdnhaaRow
namespace Go.Proofs.Ytaepgceodcdnhaa.Vm
open Go Go.RowKit
namespace X22
open Ses (Cl put lost lose Rc Tb)
open Jrn (Dk flat)
structure Act where
  w : Nat
  s : Nat
  q : Nat
  e : Nat
  h : Bool
  x : List UInt8
  k : Int
def actC (a : Act) : List T := [u8 a.w, u32 a.s, u32 a.q, u8 a.e, bool a.h, str a.x, int a.k]
def actsT (l : List Act) : T := .sl 7 (Row.aggs actC l)
theorem Imp.reix {ts : List T} {ob : Obs} {gl : Glb} (F : Nat → Nat) : Imp ts ob gl (ts.map (ix3 F)) (ob.map (ixOb F)) gl :=
  have hs : SameT (ix3 F) (ixOb F) := ⟨ix3_rel, ixOb_blk, ixOb_rel⟩
  ⟨fun _ _ h => relL_map ix3_rel h, fun _ _ h => HRel.same hs h, fun _ h => (dom_same hs).1 h⟩
/-- a table's records and the document's table, before act i -/
structure PInv (rs : List Rc) (lf : Nat) (cs : List (Nat × Cl)) (i : Nat) : Prop where
  fo : foF rs 0 nof = (lf, Ses.fn cs)
  ok : RsOk rs (i + 1)
  tb : Tb.Ok ⟨lf, cs⟩
  lf : lf ≤ i + 1
theorem PInv.keep {rs : List Rc} {lf : Nat} {cs : List (Nat × Cl)} {i : Nat} (h : PInv rs lf cs i) (hi : i < 80) : PInv rs lf cs (i + 1) :=
  ⟨h.fo, ⟨h.ok.ok, Nat.le_succ_of_le h.ok.cnt, by omega⟩, h.tb, Nat.le_succ_of_le h.lf⟩
theorem PInv.put {rs : List Rc} {lf : Nat} {cs : List (Nat × Cl)} {i : Nat} (h : PInv rs lf cs i) (hi : i < 80) (r : Rc) (hr : r.Ok) (s : Nat) (c : Cl) (hs : s < 4294967296 ∧ c.q < 4294967296 ∧ c.e < 256 ∧ c.x.length ≤ 255) (hl : (Ses.look cs s).isSome = true ∨ cs.length < 8)
    (hst : ∀ f, stF lf f r = (lf, upF f s c)) : PInv (rs ++ [r]) lf (put cs s c) (i + 1) where
  fo := by
    rw [foF_snoc, h.fo, hst, Ses.fn_put]; rfl
  ok := h.ok.snoc r hr (by omega)
  tb := h.tb.put hs hl
  lf := Nat.le_succ_of_le h.lf
theorem PInv.live {rs : List Rc} {lf : Nat} {cs : List (Nat × Cl)} {i : Nat} (h : PInv rs lf cs i) (hi : i < 80) : PInv (rs ++ [.live (lf + 1)]) (lf + 1) (lose cs) (i + 1) where
  fo := by rw [foF_snoc, h.fo, Ses.fn_lose]; rfl
  ok := h.ok.snoc _ (by have := h.lf; show lf + 1 < 256; omega) (by omega)
  tb := h.tb.lose (lf + 1)
  lf := by have := h.lf; omega
theorem crash_jd (l : List (List UInt8)) (k : Int) : Jrn.startD (Jrn.crashD (Jrn.jd l) k) = Jrn.jd l := by
  have e : Jrn.crashN (Jrn.jd l) k = (flat l).length := by
    unfold Jrn.crashN
    show (flat l).length + min (max k 0).toNat ((flat l).length - (flat l).length) = (flat l).length
    omega
  unfold Jrn.crashD
  rw [if_neg (show ¬ (Jrn.jd l).off = true from Bool.false_ne_true), e]
  unfold Jrn.startD
  show (⟨(flat l).take (flat l).length, (flat l).length, false⟩ : Dk) = ⟨flat l, (flat l).length, false⟩
  rw [List.take_length]
structure Act.Ok (a : Act) : Prop where
  s : a.s < 4294967296
  q : a.q < 4294967296
  e : a.e < 256
theorem fn_keys {cs : List (Nat × Cl)} (h : (cs.map (·.1)).Nodup) : (Ses.keys cs).Nodup ∧ (∀ z, z ∈ Ses.keys cs ↔ (Ses.fn cs z).isSome = true) ∧ cs.length = (Ses.keys cs).length := ⟨Ses.keys_nodup h, Ses.keys_mem cs, by unfold Ses.keys; rw [List.length_map]⟩
theorem acts_at {A : List Act} {i : Nat} {a : Act} (h : A[i]? = some a) : (Row.aggs actC A)[((i : Nat) : Int).toNat]? = some (.agg (actC a)) := Row.aggs_at (by rw [Int.toNat_natCast]; exact h)
theorem fn_nil : nof = Ses.fn [] := by
  funext z
  unfold Ses.fn
  split <;> rfl
end X22
end Go.Proofs.Ytaepgceodcdnhaa.Vm
