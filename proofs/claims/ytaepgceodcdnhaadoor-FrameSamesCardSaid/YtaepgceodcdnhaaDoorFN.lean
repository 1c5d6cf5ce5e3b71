/- Frames by the engine: the law's speaks. -/
import Derived.Test.YtaepgceodcdnhaaDoorFM
namespace Go.Proofs.YtaepgceodcdnhaaDoor.Vm
open Go Go.RowKit
set_option maxRecDepth 100000
namespace X6
open Frm (Cmd Mem Ent Lvs Fm decR)
theorem rel_agg_set {M : Pm} {cs : List T} {j : Nat} {t t' : T} {v : Value} (hj : cs[j]? = some t) (h : ∀ v, Rel M t v → Rel M t' v) (r : Rel M (.agg cs) v) : Rel M (.agg (cs.set j t')) v := by
  simp only [Rel] at r ⊢
  obtain ⟨ys, rfl, r⟩ := r
  obtain ⟨y, h1, h2⟩ := r.get hj
  have h3 := r.set j (h y h2)
  have e : ys.toList.set j y = ys.toList := by
    obtain ⟨hl, he⟩ := List.getElem?_eq_some_iff.1 h1
    rw [← he, List.set_getElem_self]
  rw [e] at h3
  exact ⟨ys, rfl, h3⟩
def nd : Fm := ⟨4, 1, 2, 3, 4, 0, 0, 0, false, [], false, false, 0, 0, 0, 0, 0, 0, ⟨0, 0, 0, 0, 0⟩, 0, [], ⟨0, 0, 0, 0, 0, 0, 0, 0⟩, []⟩
def ndS : List UInt8 := [4, 1, 2, 0, 0, 0, 3, 4, 246, 236, 151, 38]
theorem nd_ok : nd.Ok := by
  constructor <;> first | decide | (intro x hx; cases hx) | (constructor <;> decide)
theorem nd_enc : nd.enc = (ndS, 0) := of_decide_eq_true (by kernel_rfl)
theorem nd_dec : decR ndS = (nd, 0) := of_decide_eq_true (by kernel_rfl)
/-- a frame with slices that are nil -/
theorem enc_nil (f : Fm) (hf : f.Ok) (hm : f.ms = []) (he : f.es = []) : TCalls Tryd.prog 11 [.agg (frS f (.v nilS) (.v nilS))] obsF none_ (callPost (told (encT f) [0] obsF)) := by
  have h := enc_any f hf
  have e : frC f = frS f (.sl 3 []) (.sl 8 []) := by unfold frC frS; rw [hm, he]; rfl
  rw [e] at h
  have h1 : TCalls Tryd.prog 11 [.agg (frS f (.v nilS) (.sl 8 []))] obsF none_ (callPost (told (encT f) [0] obsF)) :=
    h.pre (Imp.slotR (ts := [.agg (frS f (.v nilS) (.sl 8 []))]) (j := 0) (t' := .agg (frS f (.sl 3 []) (.sl 8 []))) rfl (fun M v r => rel_agg_set (cs := frS f (.v nilS) (.sl 8 [])) (j := 24) (t := .v nilS) (t' := .sl 3 []) rfl (fun v r => rel_nil0 r) r))
  exact h1.pre (Imp.slotR (ts := [.agg (frS f (.v nilS) (.v nilS))]) (j := 0) (t' := .agg (frS f (.v nilS) (.sl 8 []))) rfl (fun M v r => rel_agg_set (cs := frS f (.v nilS) (.v nilS)) (j := 33) (t := .v nilS) (t' := .sl 8 []) rfl (fun v r => rel_nil0 r) r))
theorem dec_post (l : List UInt8) (hl : l.length ≤ 1000000000) : TCalls Tryd.prog 13 [str l] obsF none_ (callPost (told (decT (decR l)) [0] obsF)) := dec_any l hl _ (told_post rfl)
theorem speaks_any : TCalls Tryd.prog 9 [] obsF none_ (callPost (told (bool true) [0] obsF)) := by
  have hQ : ∀ y, y = bool true → callPost (told (bool true) [0] obsF) y obsF none_ := fun y h => told_post h
  generalize callPost (told (bool true) [0] obsF) = Q at *
  have c1 := enc_nil nd nd_ok rfl rfl
  have c2 := dec_post ndS (by decide)
  rw [nd_dec] at c2
  rw [show encT nd = .tup [str ndS, int 0] from by unfold encT; rw [nd_enc]] at c1
  have hd : decT (nd, 0) = .tup [.agg (frS nd (.sl 3 []) (.sl 8 [])), int 0] := rfl
  rw [hd] at c2
  clear hd
  unfold frS nd at *
  dsimp only at *
  unfold obsF at *
  generalize fixF = F at *
  refine TCalls.of Tryd.func9 rfl (CanCall.of Tryd.func9 rfl (by decide)) [0] fun Γ => ?_
  refine run_sound (⟨fun | 1, 2 => told (.tup [str ndS, int 0]) [0] [(0, .fix F)] | 2, 1 => told (.tup [.agg [u8 4, u8 1, u8 2, u32 3, u8 4, u32 0, u8 0, u8 0, bool false, str [], bool false, bool false, u8 0, u8 0, u32 0, u32 0, u8 0, u32 0, u8 0, u8 0, u8 0, u32 0, u32 0, u32 0, .sl 3 [], u8 0, u8 0, u8 0, u8 0, u8 0, u8 0, u8 0, u8 0, .sl 8 []], int 0]) [0] [(0, .fix F)] | _, _ => .no, [], fun  | _ => none⟩) 400 (B := TCalls Tryd.prog (11 : Nat) [T.agg [T.v (Value.int IntKind.u8 (4 : Int)), T.v (Value.int IntKind.u8 (1 : Int)), T.v (Value.int IntKind.u8 (2 : Int)), T.v (Value.int IntKind.u32 (3 : Int)), T.v (Value.int IntKind.u8 (4 : Int)), T.v (Value.int IntKind.u32 (0 : Int)), T.v (Value.int IntKind.u8 (0 : Int)), T.v (Value.int IntKind.u8 (0 : Int)), T.v (Value.bool false), T.v (Value.string (ByteArray.mk (#[]))), T.v (Value.bool false), T.v (Value.bool false), T.v (Value.int IntKind.u8 (0 : Int)), T.v (Value.int IntKind.u8 (0 : Int)), T.v (Value.int IntKind.u32 (0 : Int)), T.v (Value.int IntKind.u32 (0 : Int)), T.v (Value.int IntKind.u8 (0 : Int)), T.v (Value.int IntKind.u32 (0 : Int)), T.v (Value.int IntKind.u8 (0 : Int)), T.v (Value.int IntKind.u8 (0 : Int)), T.v (Value.int IntKind.u8 (0 : Int)), T.v (Value.int IntKind.u32 (0 : Int)), T.v (Value.int IntKind.u32 (0 : Int)), T.v (Value.int IntKind.u32 (0 : Int)), T.v (Value.slice none (0 : Nat) (0 : Nat)), T.v (Value.int IntKind.u8 (0 : Int)), T.v (Value.int IntKind.u8 (0 : Int)), T.v (Value.int IntKind.u8 (0 : Int)), T.v (Value.int IntKind.u8 (0 : Int)), T.v (Value.int IntKind.u8 (0 : Int)), T.v (Value.int IntKind.u8 (0 : Int)), T.v (Value.int IntKind.u8 (0 : Int)), T.v (Value.int IntKind.u8 (0 : Int)), T.v (Value.slice none (0 : Nat) (0 : Nat))]] [((0 : Nat), Ob.fix F)] (fun x => none) (callPost (Hint.call false Unit (fun x => True) [(0 : Nat)] false (fun x => T.tup [str ndS, int (0 : Int)]) (fun x => [((0 : Nat), Ob.fix F)]) fun x => none_)) ∧ ∀ (a : Unit), True → TCalls Tryd.prog (13 : Nat) [T.v (Value.string (ByteArray.mk (List.toArray ndS)))] [((0 : Nat), Ob.fix F)] (fun x => none) (callPost (Hint.call false Unit (fun x => True) [(0 : Nat)] false (fun x => T.tup [T.agg (let y := let y := let y := [u8 (0 : Int), u8 (0 : Int), u8 (0 : Int), u8 (0 : Int), T.sl (8 : Nat) []]; u8 (0 : Int) :: u8 (0 : Int) :: u8 (0 : Int) :: u8 (0 : Int) :: y; let y := u32 (0 : Int) :: u32 (0 : Int) :: u32 (0 : Int) :: T.sl (3 : Nat) [] :: y; u32 (0 : Int) :: u8 (0 : Int) :: u8 (0 : Int) :: u8 (0 : Int) :: y; let y := let y := u8 (0 : Int) :: u8 (0 : Int) :: u32 (0 : Int) :: u32 (0 : Int) :: u8 (0 : Int) :: y; bool false :: str [] :: bool false :: bool false :: y; let y := u8 (4 : Int) :: u32 (0 : Int) :: u8 (0 : Int) :: u8 (0 : Int) :: y; u8 (4 : Int) :: u8 (1 : Int) :: u8 (2 : Int) :: u32 (3 : Int) :: y), int (0 : Int)]) (fun x => [((0 : Nat), Ob.fix F)]) fun x => none_)) ∧ ∀ (a : Unit), True → ∀ (b : Nat), ((34 : Nat) = nat_lit 34 ∧ List.all [T.v (Value.int IntKind.u8 (4 : Int)), T.v (Value.int IntKind.u8 (1 : Int)), T.v (Value.int IntKind.u8 (2 : Int)), T.v (Value.int IntKind.u32 (3 : Int)), T.v (Value.int IntKind.u8 (4 : Int)), T.v (Value.int IntKind.u32 (0 : Int)), T.v (Value.int IntKind.u8 (0 : Int)), T.v (Value.int IntKind.u8 (0 : Int)), T.v (Value.bool false), T.v (Value.string (ByteArray.mk (#[]))), T.v (Value.bool false), T.v (Value.bool false), T.v (Value.int IntKind.u8 (0 : Int)), T.v (Value.int IntKind.u8 (0 : Int)), T.v (Value.int IntKind.u32 (0 : Int)), T.v (Value.int IntKind.u32 (0 : Int)), T.v (Value.int IntKind.u8 (0 : Int)), T.v (Value.int IntKind.u32 (0 : Int)), T.v (Value.int IntKind.u8 (0 : Int)), T.v (Value.int IntKind.u8 (0 : Int)), T.v (Value.int IntKind.u8 (0 : Int)), T.v (Value.int IntKind.u32 (0 : Int)), T.v (Value.int IntKind.u32 (0 : Int)), T.v (Value.int IntKind.u32 (0 : Int)), T.sl (3 : Nat) [], T.v (Value.int IntKind.u8 (0 : Int)), T.v (Value.int IntKind.u8 (0 : Int)), T.v (Value.int IntKind.u8 (0 : Int)), T.v (Value.int IntKind.u8 (0 : Int)), T.v (Value.int IntKind.u8 (0 : Int)), T.v (Value.int IntKind.u8 (0 : Int)), T.v (Value.int IntKind.u8 (0 : Int)), T.v (Value.int IntKind.u8 (0 : Int)), T.sl (8 : Nat) []] T.one = true) ∧ b = b ∧ (0 : Nat) + nat_lit 34 ≤ (34 : Nat) ∧ ((0 : Int) ≤ (↑(0 : Nat) : Int) ∧ (↑(0 : Nat) : Int) ≤ Prod.snd (IntKind.i64, (8 : Int)) ∧ Prod.snd (IntKind.i64, (8 : Int)) ≤ (↑(ByteArray.size (ByteArray.mk (List.toArray ndS))) : Int)) ∧ b = b ∧ b = b ∧ b = b ∧ Q (T.v (Value.bool true)) [((0 : Nat), Ob.fix F)] fun x => none) (by kernel_rfl) ?_
  repeat' (first | exact rfl | exact Nat.le_of_ble_eq_true rfl | refine And.intro ?_ ?_ | intro _ | refine bsplit_mk (fun _ => ?_) (fun _ => ?_))
  all_goals first
    | exact c1
    | exact c2
    | exact hQ _ rfl
    | exact Int.le_refl _
    | (show (0 : Int) ≤ 8; decide)
    | (show (8 : Int) ≤ 12; decide)
    | trace_state
end X6
end Go.Proofs.YtaepgceodcdnhaaDoor.Vm
