/- Frames by the engine: Decode. -/
import Derived.Test.YtaepgceodcdnhaaDoorFH
namespace Go.Proofs.YtaepgceodcdnhaaDoor.Vm
open Go Go.RowKit
set_option maxRecDepth 100000
namespace X6
open Frm (Fm RS rnum rgo must wrong endE fldR fldsR fm0 hdF hdS letsK bodyR decB decR openE lets hasKind)
open X1 (obsD rdH rdC)
theorem rel_nil0 {M : Pm} {k : Nat} {v : Value} (h : Rel M (.v nilS) v) : Rel M (.sl k []) v := by
  simp only [Rel] at h ⊢
  exact ⟨none, 0, h, ⟨Nat.le_refl _, by omega, fun _ => ⟨rfl, rfl⟩, fun a e => by cases e⟩, by simp [El], by simp⟩
theorem relL_set {M : Pm} {j : Nat} {ts : List T} {xs : List Value} {t t' : T} (hj : ts[j]? = some t) (ht : ∀ v, Rel M t v → Rel M t' v) (h : RelL M ts xs) : RelL M (ts.set j t') xs := by
  obtain ⟨y, h1, h2⟩ := h.get hj
  have h3 := h.set j (ht y h2)
  have e : xs.set j y = xs := by
    obtain ⟨hl, he⟩ := List.getElem?_eq_some_iff.1 h1
    rw [← he, List.set_getElem_self]
  rwa [e] at h3
/-- a cell told in another way -/
theorem Imp.cellR {ts : List T} {ob : Obs} {gl : Glb} {i b j : Nat} {cs : List T} {t t' : T} (hi : ob[i]? = some (b, .cells cs)) (hj : cs[j]? = some t) (ht : ∀ M v, Rel M t v → Rel M t' v) : Imp ts ob gl ts (ob.set i (b, .cells (cs.set j t'))) gl :=
  Imp.ob hi (fun M _ ⟨C, ty, h1, h2, h3⟩ => ⟨C, ty, h1, relL_set hj (ht M) h2, h3⟩) (fun _ h => h)
def rdF (l : List UInt8) : Hint := .call false Nat (fun _ => True) [] false (fun b => .ptr 0 b 0) (fun b => obsD b l 0) (fun _ => none_)
def hdC (k a b : Nat) : List T := [u8 k, u8 a, u8 b, u32 0, u8 0, u32 0, u8 0, u8 0, bool false, str [], bool false, bool false, u8 0, u8 0, u32 0, u32 0, u8 0, u32 0, u8 0, u8 0, u8 0, u32 0, u32 0, u32 0, .v nilS, u8 0, u8 0, u8 0, u8 0, u8 0, u8 0, u8 0, u8 0, .v nilS]
theorem letsK_eq (k : Nat) : letsK k = if 1 ≤ k ∧ k < 17 then lets k else [] := by
  unfold letsK Frm.hasKind
  by_cases h : 1 ≤ k ∧ k < 17
  · rw [if_pos h]; simp [h.1, h.2]
  · rw [if_neg h]; simp; omega
theorem lets_off (k : Nat) (h : ¬ (1 ≤ k ∧ k < 17)) : lets k = [] := by
  unfold Frm.lets
  by_cases h0 : k = 0
  · subst h0; rfl
  · rw [List.getD_eq_getElem?_getD, List.getElem?_eq_none]; rfl
    show 17 ≤ k; omega
theorem dec_any (l : List UInt8) (hl : l.length ≤ 1000000000) (Q : T → Obs → Glb → Prop) (hQ : Q (decT (decR l)) obsF none_) : TCalls Tryd.prog 13 [str l] obsF none_ Q := by
  have ho := open_post l hl
  by_cases he : openE l ≠ 0
  · rw [if_pos he] at ho
    have hQ : Q (.tup [.agg zC, int (openE l)]) obsF none_ := by
      unfold Frm.decR at hQ
      rw [if_pos he] at hQ
      unfold decT at hQ
      rw [if_pos he] at hQ
      exact hQ
    have ht : (openE l != 0) = true := by simpa using he
    generalize openE l = n at *
    unfold obsF at *
    generalize fixF = F at *
    refine TCalls.of Tryd.func13 rfl (CanCall.of Tryd.func13 rfl (by decide)) [0] fun Γ => ?_
    refine run_sound (⟨fun | 1, 1 => told (.tup [str [], int n]) [] [] | _, _ => .no, [((0, 4), ([0, 2], 0))], fun  | _ => none⟩) 400 (B := ∀ (b : Nat), TCalls Tryd.prog (38 : Nat) [T.v (Value.string (ByteArray.mk (List.toArray l)))] [] (fun x => none) (callPost (Hint.call false Unit (fun x => True) [] false (fun x => T.tup [str [], int n]) (fun x => []) fun x => none_)) ∧ ∀ (a : Unit), True → bsplit (n != (0 : Int)) (((34 : Nat) = nat_lit 34 ∧ List.all [T.v (Value.int IntKind.u8 (0 : Int)), T.v (Value.int IntKind.u8 (0 : Int)), T.v (Value.int IntKind.u8 (0 : Int)), T.v (Value.int IntKind.u32 (0 : Int)), T.v (Value.int IntKind.u8 (0 : Int)), T.v (Value.int IntKind.u32 (0 : Int)), T.v (Value.int IntKind.u8 (0 : Int)), T.v (Value.int IntKind.u8 (0 : Int)), T.v (Value.bool false), T.v (Value.string (ByteArray.mk (#[]))), T.v (Value.bool false), T.v (Value.bool false), T.v (Value.int IntKind.u8 (0 : Int)), T.v (Value.int IntKind.u8 (0 : Int)), T.v (Value.int IntKind.u32 (0 : Int)), T.v (Value.int IntKind.u32 (0 : Int)), T.v (Value.int IntKind.u8 (0 : Int)), T.v (Value.int IntKind.u32 (0 : Int)), T.v (Value.int IntKind.u8 (0 : Int)), T.v (Value.int IntKind.u8 (0 : Int)), T.v (Value.int IntKind.u8 (0 : Int)), T.v (Value.int IntKind.u32 (0 : Int)), T.v (Value.int IntKind.u32 (0 : Int)), T.v (Value.int IntKind.u32 (0 : Int)), T.v (Value.slice none (0 : Nat) (0 : Nat)), T.v (Value.int IntKind.u8 (0 : Int)), T.v (Value.int IntKind.u8 (0 : Int)), T.v (Value.int IntKind.u8 (0 : Int)), T.v (Value.int IntKind.u8 (0 : Int)), T.v (Value.int IntKind.u8 (0 : Int)), T.v (Value.int IntKind.u8 (0 : Int)), T.v (Value.int IntKind.u8 (0 : Int)), T.v (Value.int IntKind.u8 (0 : Int)), T.v (Value.slice none (0 : Nat) (0 : Nat))] T.one = true) ∧ b = b ∧ (0 : Nat) + nat_lit 34 ≤ (34 : Nat) ∧ b = b ∧ Q (T.tup [T.agg [T.v (Value.int IntKind.u8 (0 : Int)), T.v (Value.int IntKind.u8 (0 : Int)), T.v (Value.int IntKind.u8 (0 : Int)), T.v (Value.int IntKind.u32 (0 : Int)), T.v (Value.int IntKind.u8 (0 : Int)), T.v (Value.int IntKind.u32 (0 : Int)), T.v (Value.int IntKind.u8 (0 : Int)), T.v (Value.int IntKind.u8 (0 : Int)), T.v (Value.bool false), T.v (Value.string (ByteArray.mk (#[]))), T.v (Value.bool false), T.v (Value.bool false), T.v (Value.int IntKind.u8 (0 : Int)), T.v (Value.int IntKind.u8 (0 : Int)), T.v (Value.int IntKind.u32 (0 : Int)), T.v (Value.int IntKind.u32 (0 : Int)), T.v (Value.int IntKind.u8 (0 : Int)), T.v (Value.int IntKind.u32 (0 : Int)), T.v (Value.int IntKind.u8 (0 : Int)), T.v (Value.int IntKind.u8 (0 : Int)), T.v (Value.int IntKind.u8 (0 : Int)), T.v (Value.int IntKind.u32 (0 : Int)), T.v (Value.int IntKind.u32 (0 : Int)), T.v (Value.int IntKind.u32 (0 : Int)), T.v (Value.slice none (0 : Nat) (0 : Nat)), T.v (Value.int IntKind.u8 (0 : Int)), T.v (Value.int IntKind.u8 (0 : Int)), T.v (Value.int IntKind.u8 (0 : Int)), T.v (Value.int IntKind.u8 (0 : Int)), T.v (Value.int IntKind.u8 (0 : Int)), T.v (Value.int IntKind.u8 (0 : Int)), T.v (Value.int IntKind.u8 (0 : Int)), T.v (Value.int IntKind.u8 (0 : Int)), T.v (Value.slice none (0 : Nat) (0 : Nat))], T.v (Value.int IntKind.i64 n)]) [((0 : Nat), Ob.fix F)] fun x => none) (TWk Tryd.prog Γ (fin Tryd.prog Tryd.f13 [(0 : Nat)] Q) [It.code (sub (bd Tryd.f13) [(1 : Nat), (1 : Nat), (1 : Nat)])] { fr := [T.v (Value.string (ByteArray.mk (#[]))), T.und, T.ptr (1 : Nat) b (0 : Nat), T.und, T.und, T.und, T.und, T.und, T.und, T.und, T.und, T.und, T.und, T.und, T.und, T.und, T.und, T.und, T.und, T.und, T.und, T.und, T.und, T.und, T.und, T.und, T.und, T.und, T.und, T.und, T.und, T.und, T.und, T.und, T.und, T.und, T.und, T.und, T.und, T.und, T.und, T.und, T.und, T.und, T.und, T.und, T.und, T.und, T.und, T.und, T.und, T.und, T.und, T.und, T.und, T.und, T.und, T.und, T.und, T.und, T.und, T.und, T.und, T.und, T.und, T.und, T.und, T.und, T.und, T.und, T.und, T.und], ob := [], gl := fun x => none })) (by kernel_rfl) ?_
    repeat' (first | exact rfl | exact Nat.le_of_ble_eq_true rfl | refine And.intro ?_ ?_ | intro _ | refine bsplit_mk (fun _ => ?_) (fun _ => ?_))
    all_goals first
      | exact ho
      | exact hQ
      | (exfalso; rename_i h; rw [ht] at h; cases h)
      | trace_state
  · have he : openE l = 0 := Classical.not_not.1 he
    have hQ : Q (decT (decB (l.take (l.length - 4)))) obsF none_ := by
      unfold Frm.decR at hQ
      rw [if_neg (fun h => h he)] at hQ
      exact hQ
    rw [he, if_neg (fun h => h rfl)] at ho
    have hb : (l.take (l.length - 4)).length ≤ 1000000000 := by rw [List.length_take]; omega
    generalize l.take (l.length - 4) = body at *
    have h0 : (RS.mk body 0 false).Ok := ⟨hb, .inl rfl⟩
    have hd : hdF body = ⟨rnum 1 ⟨body, 0, false⟩, rnum 1 (rgo 1 ⟨body, 0, false⟩), rnum 1 (rgo 1 (rgo 1 ⟨body, 0, false⟩)), 0, 0, 0, 0, 0, false, [], false, false, 0, 0, 0, 0, 0, 0, ⟨0, 0, 0, 0, 0⟩, 0, [], ⟨0, 0, 0, 0, 0, 0, 0, 0⟩, []⟩ := rfl
    have lp : ∀ (Γ : Ctx) (b1 rb fb b4 c : Nat), TWk Tryd.prog Γ (fin Tryd.prog Tryd.f13 [0] Q) [.code (sub (bd Tryd.f13) [1, 1, 1, 1, 1, 1, 1, 0, 1, 0]), .blk 0, .code (sub (bd Tryd.f13) [1, 1, 1, 1, 1, 1, 1, 1])] ⟨frame 72 [(2, .ptr 1 b1 0), (5, .ptr 3 fb 0), (6, .ptr 4 b4 0), (43, .ptr 5 c 0)], obsX b1 rb fb b4 (hdS body) (hdF body) ++ [(c, .siter ⟨(letS (letsK (hdF body).kind)).toArray⟩ 0)], none_⟩ := by
      intro Γ b1 rb fb b4 c
      have hS : (hdS body).Ok := by unfold Frm.hdS; exact (((h0.go 1).go 1).go 1).must _
      have := dec_loop Γ b1 rb fb b4 c (hdF body).kind Q (lets (hdF body).kind) [] (hdS body) (hdF body) hS rfl
      have e : letsK (hdF body).kind = lets (hdF body).kind := by
        rw [letsK_eq]
        split
        · rfl
        · rw [lets_off _ ‹_›]
      rw [e]
      refine this ?_
      rw [show bodyT (fldsR (lets (hdF body).kind) (hdS body) (hdF body)).1 (fldsR (lets (hdF body).kind) (hdS body) (hdF body)).2 = decB body from by
        unfold bodyT Frm.decB Frm.bodyR
        rw [e]]
      exact hQ
    have hr : TCalls Tryd.prog 39 [str body] [] none_ (callPost (rdF body)) := X1.read_any body _ fun b => ⟨b, trivial, rfl, rfl, Nat.zero_le _, fun h => by cases h⟩
    have s1 := fun rb fb => rsm_post rb fb ⟨body, 0, false⟩ h0
    have s2 := fun rb fb => rsm_post rb fb (rgo 1 ⟨body, 0, false⟩) (h0.go 1)
    have s3 := fun rb fb => rsm_post rb fb (rgo 1 (rgo 1 ⟨body, 0, false⟩)) ((h0.go 1).go 1)
    have s4 := fun rb fb => rmu_post rb fb (rgo 1 (rgo 1 (rgo 1 ⟨body, 0, false⟩))) (((h0.go 1).go 1).go 1) (hasKind (hdF body).kind)
    have hof : TCalls Tryd.prog 27 [u8 (hdF body).kind] obsF none_ (callPost (told (.tup [str (letS (letsK (hdF body).kind)), bool (hasKind (hdF body).kind)]) [0] obsF)) := by
      by_cases g : 1 ≤ (hdF body).kind ∧ (hdF body).kind < 17
      · rw [letsK_eq, if_pos g, show hasKind (hdF body).kind = true from by unfold Frm.hasKind; simp [g.1, g.2]]
        exact of_yes _ g
      · rw [letsK_eq, if_neg g, show hasKind (hdF body).kind = false from by unfold Frm.hasKind; simp; omega]
        exact of_no _ (Frm.rnum1_lt _) g
    have lp' : ∀ (Γ : Ctx) (b1 rb fb b4 c : Nat), TWk Tryd.prog Γ (fin Tryd.prog Tryd.f13 [0] Q) [.code (sub (bd Tryd.f13) [1, 1, 1, 1, 1, 1, 1, 0, 1, 0]), .blk 0, .code (sub (bd Tryd.f13) [1, 1, 1, 1, 1, 1, 1, 1])] ⟨frame 72 [(2, .ptr 1 b1 0), (5, .ptr 3 fb 0), (6, .ptr 4 b4 0), (43, .ptr 5 c 0)], [(0, .fix fixF), (b1, .cells zC), (rb, .cells [str (hdS body).l, int (hdS body).e]), (fb, .cells [.ptr 2 rb 0, bool (hdS body).bad]), (b4, .cells (hdC (rnum 1 ⟨body, 0, false⟩) (rnum 1 (rgo 1 ⟨body, 0, false⟩)) (rnum 1 (rgo 1 (rgo 1 ⟨body, 0, false⟩))))), (c, .siter ⟨(letS (letsK (hdF body).kind)).toArray⟩ 0)], none_⟩ := fun Γ b1 rb fb b4 c => by
      have w1 := TWk.imp (s := ⟨frame 72 [(2, .ptr 1 b1 0), (5, .ptr 3 fb 0), (6, .ptr 4 b4 0), (43, .ptr 5 c 0)], [(0, .fix fixF), (b1, .cells zC), (rb, .cells [str (hdS body).l, int (hdS body).e]), (fb, .cells [.ptr 2 rb 0, bool (hdS body).bad]), (b4, .cells ((hdC (rnum 1 ⟨body, 0, false⟩) (rnum 1 (rgo 1 ⟨body, 0, false⟩)) (rnum 1 (rgo 1 (rgo 1 ⟨body, 0, false⟩)))).set 24 (.sl 3 []))), (c, .siter ⟨(letS (letsK (hdF body).kind)).toArray⟩ 0)], none_⟩) (lp Γ b1 rb fb b4 c) (Imp.cellR (ob := [(0, .fix fixF), (b1, .cells zC), (rb, .cells [str (hdS body).l, int (hdS body).e]), (fb, .cells [.ptr 2 rb 0, bool (hdS body).bad]), (b4, .cells ((hdC (rnum 1 ⟨body, 0, false⟩) (rnum 1 (rgo 1 ⟨body, 0, false⟩)) (rnum 1 (rgo 1 (rgo 1 ⟨body, 0, false⟩)))).set 24 (.sl 3 []))), (c, .siter ⟨(letS (letsK (hdF body).kind)).toArray⟩ 0)]) (i := 4) (j := 33) (t := .v nilS) (t' := .sl 8 []) rfl rfl fun _ _ h => rel_nil0 h)
      exact TWk.imp w1 (Imp.cellR (ob := [(0, .fix fixF), (b1, .cells zC), (rb, .cells [str (hdS body).l, int (hdS body).e]), (fb, .cells [.ptr 2 rb 0, bool (hdS body).bad]), (b4, .cells (hdC (rnum 1 ⟨body, 0, false⟩) (rnum 1 (rgo 1 ⟨body, 0, false⟩)) (rnum 1 (rgo 1 (rgo 1 ⟨body, 0, false⟩))))), (c, .siter ⟨(letS (letsK (hdF body).kind)).toArray⟩ 0)]) (i := 4) (j := 24) (t := .v nilS) (t' := .sl 3 []) rfl rfl fun _ _ h => rel_nil0 h)
    clear lp
    have eS : hdS body = must (hasKind (hdF body).kind) (rgo 1 (rgo 1 (rgo 1 ⟨body, 0, false⟩))) := rfl
    rw [eS] at lp'
    have eK : (hdF body).kind = rnum 1 ⟨body, 0, false⟩ := rfl
    rw [eK] at lp' s4 hof
    clear hd eS eK
    generalize must (hasKind (rnum 1 ⟨body, 0, false⟩)) (rgo 1 (rgo 1 (rgo 1 ⟨body, 0, false⟩))) = z4 at *
    generalize letS (letsK (rnum 1 ⟨body, 0, false⟩)) = ls at *
    generalize hasKind (rnum 1 ⟨body, 0, false⟩) = hk at *
    generalize rnum 1 (rgo 1 (rgo 1 ⟨body, 0, false⟩)) = n3 at *
    generalize rgo 1 (rgo 1 (rgo 1 ⟨body, 0, false⟩)) = z3 at *
    generalize rnum 1 (rgo 1 ⟨body, 0, false⟩) = n2 at *
    generalize rgo 1 (rgo 1 ⟨body, 0, false⟩) = z2 at *
    generalize rnum 1 ⟨body, 0, false⟩ = n1 at *
    generalize rgo 1 ⟨body, 0, false⟩ = z1 at *
    unfold obsF at *
    generalize fixF = F at *
    refine TCalls.of Tryd.func13 rfl (CanCall.of Tryd.func13 rfl (by decide)) [0] fun Γ => ?_
    refine run_sound (⟨fun | 1, 1 => told (.tup [str body, int 0]) [] [] | 4, 1 => rdF body | 5, 1 => rsH 2 3 z1 (u8 n1) | 5, 3 => rsH 2 3 z2 (u8 n2) | 5, 5 => rsH 2 3 z3 (u8 n3) | 6, 3 => told (.tup [str ls, bool hk]) [0] [(0, .fix F)] | 7, 2 => rsH 2 3 z4 (.tup []) | _, _ => .no, [((2, 9), ([2, 5, 6, 43], 6))], fun  | _ => none⟩) 400 (B := ∀ (b : Nat), TCalls Tryd.prog (38 : Nat) [T.v (Value.string (ByteArray.mk (List.toArray l)))] [] (fun x => none) (callPost (Hint.call false Unit (fun x => True) [] false (fun x => T.tup [str body, int (0 : Int)]) (fun x => []) fun x => none_)) ∧ ∀ (a : Unit), True → TCalls Tryd.prog (39 : Nat) [T.v (Value.string (ByteArray.mk (List.toArray body)))] [] (fun x => none) (callPost (Hint.call false Nat (fun x => True) [] false (fun b => T.ptr (0 : Nat) b (0 : Nat)) (fun b => obsD b body (0 : Int)) fun x => none_)) ∧ ∀ (a : Nat), True → ∀ (b_1 : Nat), TCalls Tryd.prog (40 : Nat) [T.ptr (1 : Nat) b_1 (0 : Nat)] [(a, Ob.cells [T.v (Value.string (ByteArray.mk (List.toArray body))), T.v (Value.int IntKind.i64 (0 : Int))]), (b_1, Ob.cells [T.ptr (0 : Nat) a (0 : Nat), T.v (Value.bool false)])] (fun x => none) (callPost (Hint.call false Unit (fun x => True) [(2 : Nat), (3 : Nat)] false (fun x => u8 (↑n1 : Int)) (fun x => obsR a b_1 z1) fun x => none_)) ∧ ∀ (a_1 : Unit), True → TCalls Tryd.prog (40 : Nat) [T.ptr (1 : Nat) b_1 (0 : Nat)] [(a, Ob.cells [T.v (Value.string (ByteArray.mk (List.toArray (RS.l z1)))), T.v (Value.int IntKind.i64 (RS.e z1))]), (b_1, Ob.cells [T.ptr (0 : Nat) a (0 : Nat), T.v (Value.bool (RS.bad z1))])] (fun x => none) (callPost (Hint.call false Unit (fun x => True) [(2 : Nat), (3 : Nat)] false (fun x => u8 (↑n2 : Int)) (fun x => obsR a b_1 z2) fun x => none_)) ∧ ∀ (a_2 : Unit), True → TCalls Tryd.prog (40 : Nat) [T.ptr (1 : Nat) b_1 (0 : Nat)] [(a, Ob.cells [T.v (Value.string (ByteArray.mk (List.toArray (RS.l z2)))), T.v (Value.int IntKind.i64 (RS.e z2))]), (b_1, Ob.cells [T.ptr (0 : Nat) a (0 : Nat), T.v (Value.bool (RS.bad z2))])] (fun x => none) (callPost (Hint.call false Unit (fun x => True) [(2 : Nat), (3 : Nat)] false (fun x => u8 (↑n3 : Int)) (fun x => obsR a b_1 z3) fun x => none_)) ∧ ∀ (a_3 : Unit), True → ∀ (b_2 : Nat), ((34 : Nat) = nat_lit 34 ∧ List.all [T.v (Value.int IntKind.u8 (↑n1 : Int)), T.v (Value.int IntKind.u8 (↑n2 : Int)), T.v (Value.int IntKind.u8 (↑n3 : Int)), T.v (Value.int IntKind.u32 (0 : Int)), T.v (Value.int IntKind.u8 (0 : Int)), T.v (Value.int IntKind.u32 (0 : Int)), T.v (Value.int IntKind.u8 (0 : Int)), T.v (Value.int IntKind.u8 (0 : Int)), T.v (Value.bool false), T.v (Value.string (ByteArray.mk (#[]))), T.v (Value.bool false), T.v (Value.bool false), T.v (Value.int IntKind.u8 (0 : Int)), T.v (Value.int IntKind.u8 (0 : Int)), T.v (Value.int IntKind.u32 (0 : Int)), T.v (Value.int IntKind.u32 (0 : Int)), T.v (Value.int IntKind.u8 (0 : Int)), T.v (Value.int IntKind.u32 (0 : Int)), T.v (Value.int IntKind.u8 (0 : Int)), T.v (Value.int IntKind.u8 (0 : Int)), T.v (Value.int IntKind.u8 (0 : Int)), T.v (Value.int IntKind.u32 (0 : Int)), T.v (Value.int IntKind.u32 (0 : Int)), T.v (Value.int IntKind.u32 (0 : Int)), T.v (Value.slice none (0 : Nat) (0 : Nat)), T.v (Value.int IntKind.u8 (0 : Int)), T.v (Value.int IntKind.u8 (0 : Int)), T.v (Value.int IntKind.u8 (0 : Int)), T.v (Value.int IntKind.u8 (0 : Int)), T.v (Value.int IntKind.u8 (0 : Int)), T.v (Value.int IntKind.u8 (0 : Int)), T.v (Value.int IntKind.u8 (0 : Int)), T.v (Value.int IntKind.u8 (0 : Int)), T.v (Value.slice none (0 : Nat) (0 : Nat))] T.one = true) ∧ b_2 = b_2 ∧ (0 : Nat) + nat_lit 34 ≤ (34 : Nat) ∧ b_2 = b_2 ∧ TCalls Tryd.prog (27 : Nat) [T.v (Value.int IntKind.u8 (↑n1 : Int))] [((0 : Nat), Ob.fix F)] (fun x => none) (callPost (Hint.call false Unit (fun x => True) [(0 : Nat)] false (fun x => T.tup [str ls, bool hk]) (fun x => [((0 : Nat), Ob.fix F)]) fun x => none_)) ∧ ∀ (a_4 : Unit), True → TCalls Tryd.prog (41 : Nat) [T.ptr (1 : Nat) b_1 (0 : Nat), T.v (Value.bool hk)] [(a, Ob.cells [T.v (Value.string (ByteArray.mk (List.toArray (RS.l z3)))), T.v (Value.int IntKind.i64 (RS.e z3))]), (b_1, Ob.cells [T.ptr (0 : Nat) a (0 : Nat), T.v (Value.bool (RS.bad z3))])] (fun x => none) (callPost (Hint.call false Unit (fun x => True) [(2 : Nat), (3 : Nat)] false (fun x => T.tup []) (fun x => obsR a b_1 z4) fun x => none_)) ∧ ∀ (a_5 : Unit), True → ∀ (c : Nat), TWk Tryd.prog Γ (fin Tryd.prog Tryd.f13 [(0 : Nat)] Q) [It.code (sub (bd Tryd.f13) [(1 : Nat), (1 : Nat), (1 : Nat), (1 : Nat), (1 : Nat), (1 : Nat), (1 : Nat), (0 : Nat), (1 : Nat), (0 : Nat)]), It.blk (0 : Nat), It.code (sub (bd Tryd.f13) [(1 : Nat), (1 : Nat), (1 : Nat), (1 : Nat), (1 : Nat), (1 : Nat), (1 : Nat), (1 : Nat)])] { fr := [T.und, T.und, T.ptr (1 : Nat) b (0 : Nat), T.und, T.und, T.ptr (3 : Nat) b_1 (0 : Nat), T.ptr (4 : Nat) b_2 (0 : Nat), T.und, T.und, T.und, T.und, T.und, T.und, T.und, T.und, T.und, T.und, T.und, T.und, T.und, T.und, T.und, T.und, T.und, T.und, T.und, T.und, T.und, T.und, T.und, T.und, T.und, T.und, T.und, T.und, T.und, T.und, T.und, T.und, T.und, T.und, T.und, T.und, T.ptr (5 : Nat) c (0 : Nat), T.und, T.und, T.und, T.und, T.und, T.und, T.und, T.und, T.und, T.und, T.und, T.und, T.und, T.und, T.und, T.und, T.und, T.und, T.und, T.und, T.und, T.und, T.und, T.und, T.und, T.und, T.und, T.und], ob := [((0 : Nat), Ob.fix F), (b, Ob.cells [T.v (Value.int IntKind.u8 (0 : Int)), T.v (Value.int IntKind.u8 (0 : Int)), T.v (Value.int IntKind.u8 (0 : Int)), T.v (Value.int IntKind.u32 (0 : Int)), T.v (Value.int IntKind.u8 (0 : Int)), T.v (Value.int IntKind.u32 (0 : Int)), T.v (Value.int IntKind.u8 (0 : Int)), T.v (Value.int IntKind.u8 (0 : Int)), T.v (Value.bool false), T.v (Value.string (ByteArray.mk (#[]))), T.v (Value.bool false), T.v (Value.bool false), T.v (Value.int IntKind.u8 (0 : Int)), T.v (Value.int IntKind.u8 (0 : Int)), T.v (Value.int IntKind.u32 (0 : Int)), T.v (Value.int IntKind.u32 (0 : Int)), T.v (Value.int IntKind.u8 (0 : Int)), T.v (Value.int IntKind.u32 (0 : Int)), T.v (Value.int IntKind.u8 (0 : Int)), T.v (Value.int IntKind.u8 (0 : Int)), T.v (Value.int IntKind.u8 (0 : Int)), T.v (Value.int IntKind.u32 (0 : Int)), T.v (Value.int IntKind.u32 (0 : Int)), T.v (Value.int IntKind.u32 (0 : Int)), T.v (Value.slice none (0 : Nat) (0 : Nat)), T.v (Value.int IntKind.u8 (0 : Int)), T.v (Value.int IntKind.u8 (0 : Int)), T.v (Value.int IntKind.u8 (0 : Int)), T.v (Value.int IntKind.u8 (0 : Int)), T.v (Value.int IntKind.u8 (0 : Int)), T.v (Value.int IntKind.u8 (0 : Int)), T.v (Value.int IntKind.u8 (0 : Int)), T.v (Value.int IntKind.u8 (0 : Int)), T.v (Value.slice none (0 : Nat) (0 : Nat))]), (a, Ob.cells [T.v (Value.string (ByteArray.mk (List.toArray (RS.l z4)))), T.v (Value.int IntKind.i64 (RS.e z4))]), (b_1, Ob.cells [T.ptr (2 : Nat) a (0 : Nat), T.v (Value.bool (RS.bad z4))]), (b_2, Ob.cells [T.v (Value.int IntKind.u8 (↑n1 : Int)), T.v (Value.int IntKind.u8 (↑n2 : Int)), T.v (Value.int IntKind.u8 (↑n3 : Int)), T.v (Value.int IntKind.u32 (0 : Int)), T.v (Value.int IntKind.u8 (0 : Int)), T.v (Value.int IntKind.u32 (0 : Int)), T.v (Value.int IntKind.u8 (0 : Int)), T.v (Value.int IntKind.u8 (0 : Int)), T.v (Value.bool false), T.v (Value.string (ByteArray.mk (#[]))), T.v (Value.bool false), T.v (Value.bool false), T.v (Value.int IntKind.u8 (0 : Int)), T.v (Value.int IntKind.u8 (0 : Int)), T.v (Value.int IntKind.u32 (0 : Int)), T.v (Value.int IntKind.u32 (0 : Int)), T.v (Value.int IntKind.u8 (0 : Int)), T.v (Value.int IntKind.u32 (0 : Int)), T.v (Value.int IntKind.u8 (0 : Int)), T.v (Value.int IntKind.u8 (0 : Int)), T.v (Value.int IntKind.u8 (0 : Int)), T.v (Value.int IntKind.u32 (0 : Int)), T.v (Value.int IntKind.u32 (0 : Int)), T.v (Value.int IntKind.u32 (0 : Int)), T.v (Value.slice none (0 : Nat) (0 : Nat)), T.v (Value.int IntKind.u8 (0 : Int)), T.v (Value.int IntKind.u8 (0 : Int)), T.v (Value.int IntKind.u8 (0 : Int)), T.v (Value.int IntKind.u8 (0 : Int)), T.v (Value.int IntKind.u8 (0 : Int)), T.v (Value.int IntKind.u8 (0 : Int)), T.v (Value.int IntKind.u8 (0 : Int)), T.v (Value.int IntKind.u8 (0 : Int)), T.v (Value.slice none (0 : Nat) (0 : Nat))]), (c, Ob.siter (ByteArray.mk (List.toArray ls)) (0 : Nat))], gl := fun x => none }) (by kernel_rfl) ?_
    repeat' (first | exact rfl | exact Nat.le_of_ble_eq_true rfl | refine And.intro ?_ ?_ | intro _ | refine bsplit_mk (fun _ => ?_) (fun _ => ?_))
    all_goals first
      | exact ho
      | exact hr _ _
      | exact hr
      | exact s1 _ _
      | exact s2 _ _
      | exact s3 _ _
      | exact s4 _ _
      | exact hof
      | exact lp' _ _ _ _ _ _
      | trace_state
end X6
end Go.Proofs.YtaepgceodcdnhaaDoor.Vm
