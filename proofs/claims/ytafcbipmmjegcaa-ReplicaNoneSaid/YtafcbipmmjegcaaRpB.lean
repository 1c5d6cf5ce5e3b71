/- Replicas by the engine: drives, transfers. -/
import Derived.Test.YtafcbipmmjegcaaRpA
import Derived.Test.YtafcbipmmjegcaaVmG
namespace Go.Proofs.Ytafcbipmmjegcaa.Vm
open Go Go.RowKit
set_option maxRecDepth 100000
namespace X20
open Rep (Stp Wrd Cel Drv Plc RS Fm Ev)
def ackF (a : Nat → Bool) : Int → Option T := fun z => if 0 ≤ z ∧ a z.toNat = true then some (bool true) else none
def drT (d : Drv) (m : T) : List T := [u32 d.w.s.n, u8 d.w.s.b, u8 d.w.s.l, bool d.w.h, txt d.w.t, bool d.w.r, bool d.own, m, bool d.cov, int d.tk]
def obsD (g m : Nat) (d : Drv) (es : Array MapEntry) (ck : Nat) : Obs := [(g, .cells (drT d (.mp 1 m))), (m, .map .u8 (ackF d.acks) es ck)]
theorem dnew_ob (w : Wrd) (own : Bool) (gl : Glb) (Q : T → Obs → Glb → Prop) (hQ : ∀ g m, Q (.ptr 1 g 0) [(m, .map .u8 (fun _ => none) #[] 0), (g, .cells (drT (Rep.newD w own) (.mp 0 m)))] gl) : TCalls Try.prog 46 [.agg (wdC w), bool own] [] gl Q := by
  refine TCalls.of Try.func46 rfl (CanCall.of Try.func46 rfl (by decide)) [1, 2] fun Γ => ?_
  refine run_sound (⟨fun _ _ => .no, [], fun _ => none⟩) 400 (B := ∀ (b : Nat), b = b ∧ ∀ (b b_1 : Nat), Q (T.ptr (1 : Nat) b_1 (0 : Nat)) [(b, Ob.map IntKind.u8 (fun x => none) #[] (0 : Nat)), (b_1, Ob.cells [T.v (Value.int IntKind.u32 (↑(Stp.n (Wrd.s w)) : Int)), T.v (Value.int IntKind.u8 (↑(Stp.b (Wrd.s w)) : Int)), T.v (Value.int IntKind.u8 (↑(Stp.l (Wrd.s w)) : Int)), T.v (Value.bool (Wrd.h w)), T.v (Value.string (Wrd.t w)), T.v (Value.bool (Wrd.r w)), T.v (Value.bool own), T.mp (0 : Nat) b, T.v (Value.bool false), T.v (Value.int IntKind.i64 (0 : Int))])] gl) (by kernel_rfl) ?_
  repeat' (first | exact rfl | exact Nat.le_of_ble_eq_true rfl | refine And.intro ?_ ?_ | intro _ | refine bsplit_mk (fun _ => ?_) (fun _ => ?_))
  exact hQ _ _
theorem dword_ob (g m : Nat) (d : Drv) (es : Array MapEntry) (ck : Nat) (gl : Glb) (Q : T → Obs → Glb → Prop) (hQ : Q (.agg (wdC d.w)) (obsD g m d es ck) gl) : TCalls Try.prog 55 [.ptr 0 g 0] (obsD g m d es ck) gl Q := by
  refine TCalls.of Try.func55 rfl (CanCall.of Try.func55 rfl (by decide)) [0, 1] fun Γ => ?_
  refine run_sound (⟨fun _ _ => .no, [], fun _ => none⟩) 400 (B := ∀ (b : Nat), g = g ∧ ((6 : Nat) = nat_lit 6 ∧ List.all [T.v (Value.int IntKind.u32 (↑(Stp.n (Wrd.s (Drv.w d))) : Int)), T.v (Value.int IntKind.u8 (↑(Stp.b (Wrd.s (Drv.w d))) : Int)), T.v (Value.int IntKind.u8 (↑(Stp.l (Wrd.s (Drv.w d))) : Int)), T.v (Value.bool (Wrd.h (Drv.w d))), T.v (Value.string (Wrd.t (Drv.w d))), T.v (Value.bool (Wrd.r (Drv.w d)))] T.one = true) ∧ b = b ∧ (0 : Nat) + nat_lit 6 ≤ (6 : Nat) ∧ b = b ∧ Q (T.agg [T.v (Value.int IntKind.u32 (↑(Stp.n (Wrd.s (Drv.w d))) : Int)), T.v (Value.int IntKind.u8 (↑(Stp.b (Wrd.s (Drv.w d))) : Int)), T.v (Value.int IntKind.u8 (↑(Stp.l (Wrd.s (Drv.w d))) : Int)), T.v (Value.bool (Wrd.h (Drv.w d))), T.v (Value.string (Wrd.t (Drv.w d))), T.v (Value.bool (Wrd.r (Drv.w d)))]) [(g, Ob.cells [T.v (Value.int IntKind.u32 (↑(Stp.n (Wrd.s (Drv.w d))) : Int)), T.v (Value.int IntKind.u8 (↑(Stp.b (Wrd.s (Drv.w d))) : Int)), T.v (Value.int IntKind.u8 (↑(Stp.l (Wrd.s (Drv.w d))) : Int)), T.v (Value.bool (Wrd.h (Drv.w d))), T.v (Value.string (Wrd.t (Drv.w d))), T.v (Value.bool (Wrd.r (Drv.w d))), T.v (Value.bool (Drv.own d)), T.mp (1 : Nat) m, T.v (Value.bool (Drv.cov d)), T.v (Value.int IntKind.i64 (↑(Drv.tk d) : Int))]), (m, Ob.map IntKind.u8 (ackF (Drv.acks d)) es ck)] gl) (by kernel_rfl) ?_
  repeat' (first | exact rfl | exact Nat.le_of_ble_eq_true rfl | refine And.intro ?_ ?_ | intro _ | refine bsplit_mk (fun _ => ?_) (fun _ => ?_))
  exact hQ
theorem down_ob (g m : Nat) (d : Drv) (es : Array MapEntry) (ck : Nat) (gl : Glb) (Q : T → Obs → Glb → Prop) (hQ : Q (bool d.own) (obsD g m d es ck) gl) : TCalls Try.prog 56 [.ptr 0 g 0] (obsD g m d es ck) gl Q := by
  refine TCalls.of Try.func56 rfl (CanCall.of Try.func56 rfl (by decide)) [0, 1] fun Γ => ?_
  refine run_sound (⟨fun _ _ => .no, [], fun _ => none⟩) 400 (B := g = g ∧ Q (T.v (Value.bool (Drv.own d))) [(g, Ob.cells [T.v (Value.int IntKind.u32 (↑(Stp.n (Wrd.s (Drv.w d))) : Int)), T.v (Value.int IntKind.u8 (↑(Stp.b (Wrd.s (Drv.w d))) : Int)), T.v (Value.int IntKind.u8 (↑(Stp.l (Wrd.s (Drv.w d))) : Int)), T.v (Value.bool (Wrd.h (Drv.w d))), T.v (Value.string (Wrd.t (Drv.w d))), T.v (Value.bool (Wrd.r (Drv.w d))), T.v (Value.bool (Drv.own d)), T.mp (1 : Nat) m, T.v (Value.bool (Drv.cov d)), T.v (Value.int IntKind.i64 (↑(Drv.tk d) : Int))]), (m, Ob.map IntKind.u8 (ackF (Drv.acks d)) es ck)] gl) (by kernel_rfl) ?_
  repeat' (first | exact rfl | exact Nat.le_of_ble_eq_true rfl | refine And.intro ?_ ?_ | intro _ | refine bsplit_mk (fun _ => ?_) (fun _ => ?_))
  exact hQ
theorem dtick_ob (g m : Nat) (d : Drv) (es : Array MapEntry) (ck : Nat) (n : Nat) (hd : d.tk ≤ 1000000) (gl : Glb) (Q : T → Obs → Glb → Prop) (hQ : Q (bool (Rep.tickD d n).2) (obsD g m (Rep.tickD d n).1 es ck) gl) : TCalls Try.prog 67 [.ptr 0 g 0, int n] (obsD g m d es ck) gl Q := by
  have hw : IntKind.wrap .i64 ((d.tk : Int) + 1) = ((d.tk + 1 : Nat) : Int) := by rw [wrap_i64 (by omega) (by omega)]; omega
  refine TCalls.of Try.func67 rfl (CanCall.of Try.func67 rfl (by decide)) [0, 1] fun Γ => ?_
  refine run_sound (⟨fun _ _ => .no, [], fun _ => none⟩) 400 (B := g = g ∧ ((1 : Nat) = nat_lit 1 ∧ List.all (List.map T.v (Array.toList #[Value.int IntKind.i64 (IntKind.wrap IntKind.i64 ((↑(Drv.tk d) : Int) + (1 : Int)))])) T.one = true) ∧ g = g ∧ (9 : Nat) + nat_lit 1 ≤ (10 : Nat) ∧ g = g ∧ bsplit (decide (IntKind.wrap IntKind.i64 ((↑(Drv.tk d) : Int) + (1 : Int)) < (↑n : Int))) (Q (T.v (Value.bool false)) [(g, Ob.cells [T.v (Value.int IntKind.u32 (↑(Stp.n (Wrd.s (Drv.w d))) : Int)), T.v (Value.int IntKind.u8 (↑(Stp.b (Wrd.s (Drv.w d))) : Int)), T.v (Value.int IntKind.u8 (↑(Stp.l (Wrd.s (Drv.w d))) : Int)), T.v (Value.bool (Wrd.h (Drv.w d))), T.v (Value.string (Wrd.t (Drv.w d))), T.v (Value.bool (Wrd.r (Drv.w d))), T.v (Value.bool (Drv.own d)), T.mp (1 : Nat) m, T.v (Value.bool (Drv.cov d)), T.v (Value.int IntKind.i64 (IntKind.wrap IntKind.i64 ((↑(Drv.tk d) : Int) + (1 : Int))))]), (m, Ob.map IntKind.u8 (ackF (Drv.acks d)) es ck)] gl) (((1 : Nat) = nat_lit 1 ∧ List.all (List.map T.v (Array.toList #[Value.int IntKind.i64 (0 : Int)])) T.one = true) ∧ g = g ∧ (9 : Nat) + nat_lit 1 ≤ (10 : Nat) ∧ Q (T.v (Value.bool true)) [(g, Ob.cells [T.v (Value.int IntKind.u32 (↑(Stp.n (Wrd.s (Drv.w d))) : Int)), T.v (Value.int IntKind.u8 (↑(Stp.b (Wrd.s (Drv.w d))) : Int)), T.v (Value.int IntKind.u8 (↑(Stp.l (Wrd.s (Drv.w d))) : Int)), T.v (Value.bool (Wrd.h (Drv.w d))), T.v (Value.string (Wrd.t (Drv.w d))), T.v (Value.bool (Wrd.r (Drv.w d))), T.v (Value.bool (Drv.own d)), T.mp (1 : Nat) m, T.v (Value.bool (Drv.cov d)), T.v (Value.int IntKind.i64 (0 : Int))]), (m, Ob.map IntKind.u8 (ackF (Drv.acks d)) es ck)] gl)) (by kernel_rfl) ?_
  rw [hw]
  repeat' (first | exact rfl | exact Nat.le_of_ble_eq_true rfl | refine And.intro ?_ ?_ | intro _ | refine bsplit_mk (fun _ => ?_) (fun _ => ?_))
  · rename_i h
    have e : Rep.tickD d n = ({ d with tk := d.tk + 1 }, false) := if_pos (by simp at h; omega)
    rw [e] at hQ; exact hQ
  · rename_i h
    have e : Rep.tickD d n = ({ d with tk := 0 }, true) := if_neg (by simp at h; omega)
    rw [e] at hQ; exact hQ
theorem ack_fn (a : Nat → Bool) (n : Nat) (t : T) : updT (updT (ackF a) (n : Int) t) (n : Int) (bool true) = ackF (Rep.put a n true) := by
  funext z
  unfold updT ackF Rep.put
  by_cases h : z = (n : Int)
  · subst h; simp
  · rw [if_neg h, if_neg h]
    by_cases h0 : 0 ≤ z
    · have : z.toNat ≠ n := by omega
      simp [h0, this]
    · simp [h0]
theorem dack_ob (g m : Nat) (d : Drv) (es : Array MapEntry) (ck : Nat) (n : Nat) (c : Bool) (gl : Glb) (Q : T → Obs → Glb → Prop) (hQ : ∀ es' ck', Q (.tup []) (obsD g m (Rep.ackD d n c) es' ck') gl) : TCalls Try.prog 73 [.ptr 0 g 0, u8 n, bool c] (obsD g m d es ck) gl Q := by
  refine TCalls.of Try.func73 rfl (CanCall.of Try.func73 rfl (by decide)) [0, 1] fun Γ => ?_
  refine run_sound (⟨fun | 1, 15 => .num n | _, _ => .no, [], fun | 1 => some ⟨[0], [13, 15, 18], .take true [0,1,2,3,4,6,7,8,9,10] (.take false [5,11,12] (.one 13 (.take false [14] (.one 15 (.take false [16,17] (.one 18 .done))))))⟩ | _ => none⟩) 400 (B := g = g ∧ g = g ∧ bsplit (Drv.cov d) (m = m ∧ ∀ (q : Nat) (es : Array MapEntry) (ck : Nat), BornE es IntKind.u8 (↑q : Int) (↑n : Int) → m = m ∧ BornE es IntKind.u8 (↑q : Int) (↑n : Int) ∧ ∀ (es' : Array MapEntry) (ck' : Nat), ((1 : Nat) = nat_lit 1 ∧ List.all (List.map T.v (Array.toList #[Value.bool true])) T.one = true) ∧ g = g ∧ (8 : Nat) + nat_lit 1 ≤ (10 : Nat) ∧ Q (T.tup []) [(g, Ob.cells [T.v (Value.int IntKind.u32 (↑(Stp.n (Wrd.s (Drv.w d))) : Int)), T.v (Value.int IntKind.u8 (↑(Stp.b (Wrd.s (Drv.w d))) : Int)), T.v (Value.int IntKind.u8 (↑(Stp.l (Wrd.s (Drv.w d))) : Int)), T.v (Value.bool (Wrd.h (Drv.w d))), T.v (Value.string (Wrd.t (Drv.w d))), T.v (Value.bool (Wrd.r (Drv.w d))), T.v (Value.bool (Drv.own d)), T.mp (1 : Nat) m, T.v (Value.bool true), T.v (Value.int IntKind.i64 (↑(Drv.tk d) : Int))]), (m, Ob.map IntKind.u8 (updT (updT (ackF (Drv.acks d)) (↑n : Int) (Option.getD (ackF (Drv.acks d) (↑n : Int)) (T.v (Value.bool false)))) (↑n : Int) (T.v (Value.bool true))) es' ck')] gl) (m = m ∧ ∀ (q : Nat) (es : Array MapEntry) (ck : Nat), BornE es IntKind.u8 (↑q : Int) (↑n : Int) → m = m ∧ BornE es IntKind.u8 (↑q : Int) (↑n : Int) ∧ ∀ (es' : Array MapEntry) (ck' : Nat), ((1 : Nat) = nat_lit 1 ∧ List.all (List.map T.v (Array.toList #[Value.bool c])) T.one = true) ∧ g = g ∧ (8 : Nat) + nat_lit 1 ≤ (10 : Nat) ∧ Q (T.tup []) [(g, Ob.cells [T.v (Value.int IntKind.u32 (↑(Stp.n (Wrd.s (Drv.w d))) : Int)), T.v (Value.int IntKind.u8 (↑(Stp.b (Wrd.s (Drv.w d))) : Int)), T.v (Value.int IntKind.u8 (↑(Stp.l (Wrd.s (Drv.w d))) : Int)), T.v (Value.bool (Wrd.h (Drv.w d))), T.v (Value.string (Wrd.t (Drv.w d))), T.v (Value.bool (Wrd.r (Drv.w d))), T.v (Value.bool (Drv.own d)), T.mp (1 : Nat) m, T.v (Value.bool c), T.v (Value.int IntKind.i64 (↑(Drv.tk d) : Int))]), (m, Ob.map IntKind.u8 (updT (updT (ackF (Drv.acks d)) (↑n : Int) (Option.getD (ackF (Drv.acks d) (↑n : Int)) (T.v (Value.bool false)))) (↑n : Int) (T.v (Value.bool true))) es' ck')] gl)) (by kernel_rfl) ?_
  repeat' (first | exact rfl | exact Nat.le_of_ble_eq_true rfl | refine And.intro ?_ ?_ | intro _ | refine bsplit_mk (fun _ => ?_) (fun _ => ?_))
  all_goals first
    | assumption
    | (rename_i hc q es1 ck1 hb es2 ck2
       have h2 := hQ es2 ck2
       rw [show Rep.ackD d n c = ⟨d.w, d.own, Rep.put d.acks n true, d.cov || c, d.tk⟩ from rfl, hc] at h2
       simp only [obsD] at h2
       rw [← ack_fn d.acks n ((ackF d.acks (n : Int)).getD (bool false))] at h2
       exact h2)
theorem dagain_ob (g m : Nat) (d : Drv) (es : Array MapEntry) (ck : Nat) (gl : Glb) (Q : T → Obs → Glb → Prop) (hQ : ∀ m', Q (.tup []) [(g, .cells (drT (Rep.newD d.w d.own) (.mp 2 m'))), (m, .map .u8 (ackF d.acks) es ck), (m', .map .u8 (fun _ => none) #[] 0)] gl) : TCalls Try.prog 34 [.ptr 0 g 0] (obsD g m d es ck) gl Q := by
  refine TCalls.of Try.func34 rfl (CanCall.of Try.func34 rfl (by decide)) [0, 1, 2] fun Γ => ?_
  refine run_sound (⟨fun | 1, 9 => .withB fun B => .call false (Nat × Nat) (fun _ => True) [] false (fun a => .ptr 1 a.1 0) (fun a => [(a.2, .map .u8 (fun _ => none) #[] 0), (a.1, .cells (drT (Rep.newD d.w d.own) (.mp 0 a.2)))]) (fun _ => none_) | _, _ => .no, [], fun | 1 => some ⟨[0], [13], .take true [0,1,2,3,4,5,6,7,8] (.one 9 (.take true [10] (.one 11 (.take true [12] (.one 13 .done)))))⟩ | _ => none⟩) 400 (B := g = g ∧ g = g ∧ TCalls Try.prog (46 : Nat) [T.agg [T.v (Value.int IntKind.u32 (↑(Stp.n (Wrd.s (Drv.w d))) : Int)), T.v (Value.int IntKind.u8 (↑(Stp.b (Wrd.s (Drv.w d))) : Int)), T.v (Value.int IntKind.u8 (↑(Stp.l (Wrd.s (Drv.w d))) : Int)), T.v (Value.bool (Wrd.h (Drv.w d))), T.v (Value.string (Wrd.t (Drv.w d))), T.v (Value.bool (Wrd.r (Drv.w d)))], T.v (Value.bool (Drv.own d))] [] (fun x => none) (callPost (Hint.call false (Nat × Nat) (fun x => True) [] false (fun a => T.ptr (1 : Nat) (Prod.fst a) (0 : Nat)) (fun a => [(Prod.snd a, Ob.map IntKind.u8 (fun x => none) #[] (0 : Nat)), (Prod.fst a, Ob.cells (drT (Rep.newD (Drv.w d) (Drv.own d)) (T.mp (0 : Nat) (Prod.snd a))))]) fun x => none_)) ∧ ∀ (a : Nat × Nat), True → Prod.fst a = Prod.fst a ∧ ((10 : Nat) = nat_lit 10 ∧ List.all [T.v (Value.int IntKind.u32 (↑(Stp.n (Wrd.s (Drv.w (Rep.newD (Drv.w d) (Drv.own d))))) : Int)), T.v (Value.int IntKind.u8 (↑(Stp.b (Wrd.s (Drv.w (Rep.newD (Drv.w d) (Drv.own d))))) : Int)), T.v (Value.int IntKind.u8 (↑(Stp.l (Wrd.s (Drv.w (Rep.newD (Drv.w d) (Drv.own d))))) : Int)), T.v (Value.bool (Wrd.h (Drv.w (Rep.newD (Drv.w d) (Drv.own d))))), T.v (Value.string (Wrd.t (Drv.w (Rep.newD (Drv.w d) (Drv.own d))))), T.v (Value.bool (Wrd.r (Drv.w (Rep.newD (Drv.w d) (Drv.own d))))), T.v (Value.bool (Drv.own (Rep.newD (Drv.w d) (Drv.own d)))), T.mp (2 : Nat) (Prod.snd a), T.v (Value.bool false), T.v (Value.int IntKind.i64 (↑(Drv.tk (Rep.newD (Drv.w d) (Drv.own d))) : Int))] T.one = true) ∧ g = g ∧ (0 : Nat) + nat_lit 10 ≤ (10 : Nat) ∧ Q (T.tup []) [(g, Ob.cells [T.v (Value.int IntKind.u32 (↑(Stp.n (Wrd.s (Drv.w (Rep.newD (Drv.w d) (Drv.own d))))) : Int)), T.v (Value.int IntKind.u8 (↑(Stp.b (Wrd.s (Drv.w (Rep.newD (Drv.w d) (Drv.own d))))) : Int)), T.v (Value.int IntKind.u8 (↑(Stp.l (Wrd.s (Drv.w (Rep.newD (Drv.w d) (Drv.own d))))) : Int)), T.v (Value.bool (Wrd.h (Drv.w (Rep.newD (Drv.w d) (Drv.own d))))), T.v (Value.string (Wrd.t (Drv.w (Rep.newD (Drv.w d) (Drv.own d))))), T.v (Value.bool (Wrd.r (Drv.w (Rep.newD (Drv.w d) (Drv.own d))))), T.v (Value.bool (Drv.own (Rep.newD (Drv.w d) (Drv.own d)))), T.mp (2 : Nat) (Prod.snd a), T.v (Value.bool false), T.v (Value.int IntKind.i64 (↑(Drv.tk (Rep.newD (Drv.w d) (Drv.own d))) : Int))]), (m, Ob.map IntKind.u8 (ackF (Drv.acks d)) es ck), (Prod.snd a, Ob.map IntKind.u8 (fun x => none) #[] (0 : Nat))] gl) (by kernel_rfl) ?_
  repeat' (first | exact rfl | exact Nat.le_of_ble_eq_true rfl | refine And.intro ?_ ?_ | intro _ | refine bsplit_mk (fun _ => ?_) (fun _ => ?_))
  all_goals first
    | exact dnew_ob d.w d.own _ _ fun g m => ⟨(g, m), trivial, rfl, rfl, Nat.zero_le _, fun h => by cases h⟩
    | (rename_i a _; exact hQ a.2)
    | trace_state
theorem u8s_at {l : List Nat} {i x : Nat} (h : l[i]? = some x) : (X5.u8s l)[i]? = some (u8 x) := by rw [X5.u8s, List.getElem?_map, h]; rfl
theorem ackF_at (a : Nat → Bool) (x : Nat) : (ackF a (x : Int)).getD (bool false) = bool (a x) := by
  unfold ackF
  cases h : a x <;> simp [h]
theorem ddone_loop (Γ : Ctx) (g m : Nat) (d : Drv) (es : Array MapEntry) (ck : Nat) (l : List Nat) (hl : l.length ≤ 1000000) (gl : Glb) (Q : T → Obs → Glb → Prop) (hQ : Q (.tup [bool (Rep.doneD d l), bool d.cov]) (obsD g m d es ck) gl) : ∀ (r d0 : List Nat) (k : Int), l = d0 ++ r → k = d0.length → d0.all d.acks = true →
    TWk Try.prog Γ (fin Try.prog Try.f82 [0, 1] Q) [.code (sub (bd Try.f82) [1, 1, 0, 1, 0]), .blk 0, .code (sub (bd Try.f82) [1, 1, 1])] ⟨frame 32 [(0, .ptr 0 g 0), (10, .sl 1 (X5.u8s l)), (11, int l.length), (12, int k)], obsD g m d es ck, gl⟩ := by
  intro r
  induction r with
  | nil =>
    intro d0 k h1 hk ha
    have hlk : (l.length : Int) = k := by rw [h1, hk]; simp
    have hd : Rep.doneD d l = true := by rw [Rep.doneD, h1, List.append_nil]; exact ha
    rw [hd] at hQ
    clear h1 hd
    generalize X5.u8s l = L at *
    generalize (l.length : Int) = n at *
    subst hlk
    refine run_sound (⟨fun | 5, 0 => .res (u8 0) | 6, 5 => .res (bool true) | _, _ => .no, [((2, 4), ([0, 10, 11, 12], 2))], fun  | _ => none⟩) 400 (B := bsplit (decide (n < n)) ((0 : Int) ≤ n ∧ L[Int.toNat n]? = some (T.v (Value.int IntKind.u8 (0 : Int))) ∧ g = g ∧ m = m ∧ some (if false = true then T.tup [Option.getD (ackF (Drv.acks d) (0 : Int)) (T.v (Value.bool false)), T.v (Value.bool (Option.isSome (ackF (Drv.acks d) (0 : Int))))] else Option.getD (ackF (Drv.acks d) (0 : Int)) (T.v (Value.bool false))) = some (T.v (Value.bool true)) ∧ TWk Try.prog Γ (fin Try.prog Try.f82 [(0 : Nat), (1 : Nat)] Q) [It.code (sub (bd Try.f82) [(1 : Nat), (1 : Nat), (0 : Nat), (1 : Nat), (0 : Nat)]), It.blk (0 : Nat), It.code (sub (bd Try.f82) [(1 : Nat), (1 : Nat), (1 : Nat)])] { fr := [T.ptr (0 : Nat) g (0 : Nat), T.und, T.und, T.und, T.und, T.und, T.und, T.und, T.und, T.und, T.sl (1 : Nat) L, T.v (Value.int IntKind.i64 n), T.v (Value.int IntKind.i64 (IntKind.wrap IntKind.i64 (n + (1 : Int)))), T.und, T.und, T.und, T.und, T.und, T.und, T.und, T.und, T.und, T.und, T.und, T.und, T.und, T.und, T.und, T.und, T.und, T.und, T.und], ob := [(g, Ob.cells [T.v (Value.int IntKind.u32 (↑(Stp.n (Wrd.s (Drv.w d))) : Int)), T.v (Value.int IntKind.u8 (↑(Stp.b (Wrd.s (Drv.w d))) : Int)), T.v (Value.int IntKind.u8 (↑(Stp.l (Wrd.s (Drv.w d))) : Int)), T.v (Value.bool (Wrd.h (Drv.w d))), T.v (Value.string (Wrd.t (Drv.w d))), T.v (Value.bool (Wrd.r (Drv.w d))), T.v (Value.bool (Drv.own d)), T.mp (1 : Nat) m, T.v (Value.bool (Drv.cov d)), T.v (Value.int IntKind.i64 (↑(Drv.tk d) : Int))]), (m, Ob.map IntKind.u8 (ackF (Drv.acks d)) es ck)], gl := gl }) (g = g ∧ Q (T.tup [T.v (Value.bool true), T.v (Value.bool (Drv.cov d))]) [(g, Ob.cells [T.v (Value.int IntKind.u32 (↑(Stp.n (Wrd.s (Drv.w d))) : Int)), T.v (Value.int IntKind.u8 (↑(Stp.b (Wrd.s (Drv.w d))) : Int)), T.v (Value.int IntKind.u8 (↑(Stp.l (Wrd.s (Drv.w d))) : Int)), T.v (Value.bool (Wrd.h (Drv.w d))), T.v (Value.string (Wrd.t (Drv.w d))), T.v (Value.bool (Wrd.r (Drv.w d))), T.v (Value.bool (Drv.own d)), T.mp (1 : Nat) m, T.v (Value.bool (Drv.cov d)), T.v (Value.int IntKind.i64 (↑(Drv.tk d) : Int))]), (m, Ob.map IntKind.u8 (ackF (Drv.acks d)) es ck)] gl)) (by kernel_rfl) ?_
    repeat' (first | exact rfl | exact Nat.le_of_ble_eq_true rfl | refine And.intro ?_ ?_ | intro _ | refine bsplit_mk (fun _ => ?_) (fun _ => ?_))
    all_goals first
      | exact hQ
      | (exfalso; simp at *; done)
      | trace_state
  | cons x r ih =>
    intro d0 k h1 hk ha
    have hlk : k < (l.length : Int) := by rw [h1, hk]; simp; omega
    have hk0 : 0 ≤ k := by omega
    have hw : IntKind.wrap .i64 (k + 1) = k + 1 := wrap_i64 (by omega) (by omega)
    have e1 : (X5.u8s l)[k.toNat]? = some (u8 x) := u8s_at (by rw [h1, hk]; simp)
    have nx : d.acks x = true → TWk Try.prog Γ (fin Try.prog Try.f82 [0, 1] Q) [.code (sub (bd Try.f82) [1, 1, 0, 1, 0]), .blk 0, .code (sub (bd Try.f82) [1, 1, 1])] ⟨frame 32 [(0, .ptr 0 g 0), (10, .sl 1 (X5.u8s l)), (11, int l.length), (12, int (k + 1))], obsD g m d es ck, gl⟩ := fun e => ih (d0 ++ [x]) (k + 1) (by simp [h1]) (by simp [hk]) (by simp [List.all_append, ha, e])
    have no : d.acks x = false → Rep.doneD d l = false := fun e => by rw [Rep.doneD, h1, List.all_append, List.all_cons, e]; simp
    have e2 := ackF_at d.acks x
    have l1 : (X5.u8s l).length = l.length := X5.u8s_len l
    clear ih h1
    generalize X5.u8s l = L at *
    generalize (l.length : Int) = n at *
    refine run_sound (⟨fun | 5, 0 => .res (u8 x) | 6, 5 => .res (bool (d.acks x)) | 8, 0 => .res (int (k + 1)) | _, _ => .no, [((2, 4), ([0, 10, 11, 12], 2))], fun  | _ => none⟩) 400 (B := bsplit (decide (k < n)) ((0 : Int) ≤ k ∧ L[Int.toNat k]? = some (T.v (Value.int IntKind.u8 (↑x : Int))) ∧ g = g ∧ m = m ∧ some (if false = true then T.tup [Option.getD (ackF (Drv.acks d) (↑x : Int)) (T.v (Value.bool false)), T.v (Value.bool (Option.isSome (ackF (Drv.acks d) (↑x : Int))))] else Option.getD (ackF (Drv.acks d) (↑x : Int)) (T.v (Value.bool false))) = some (T.v (Value.bool (Drv.acks d x))) ∧ bsplit (!Drv.acks d x) (g = g ∧ Q (T.tup [T.v (Value.bool false), T.v (Value.bool (Drv.cov d))]) [(g, Ob.cells [T.v (Value.int IntKind.u32 (↑(Stp.n (Wrd.s (Drv.w d))) : Int)), T.v (Value.int IntKind.u8 (↑(Stp.b (Wrd.s (Drv.w d))) : Int)), T.v (Value.int IntKind.u8 (↑(Stp.l (Wrd.s (Drv.w d))) : Int)), T.v (Value.bool (Wrd.h (Drv.w d))), T.v (Value.string (Wrd.t (Drv.w d))), T.v (Value.bool (Wrd.r (Drv.w d))), T.v (Value.bool (Drv.own d)), T.mp (1 : Nat) m, T.v (Value.bool (Drv.cov d)), T.v (Value.int IntKind.i64 (↑(Drv.tk d) : Int))]), (m, Ob.map IntKind.u8 (ackF (Drv.acks d)) es ck)] gl) (T.v (Value.int IntKind.i64 (IntKind.wrap IntKind.i64 (k + (1 : Int)))) = T.v (Value.int IntKind.i64 (k + (1 : Int))) ∧ TWk Try.prog Γ (fin Try.prog Try.f82 [(0 : Nat), (1 : Nat)] Q) [It.code (sub (bd Try.f82) [(1 : Nat), (1 : Nat), (0 : Nat), (1 : Nat), (0 : Nat)]), It.blk (0 : Nat), It.code (sub (bd Try.f82) [(1 : Nat), (1 : Nat), (1 : Nat)])] { fr := [T.ptr (0 : Nat) g (0 : Nat), T.und, T.und, T.und, T.und, T.und, T.und, T.und, T.und, T.und, T.sl (1 : Nat) L, T.v (Value.int IntKind.i64 n), T.v (Value.int IntKind.i64 (k + (1 : Int))), T.und, T.und, T.und, T.und, T.und, T.und, T.und, T.und, T.und, T.und, T.und, T.und, T.und, T.und, T.und, T.und, T.und, T.und, T.und], ob := [(g, Ob.cells [T.v (Value.int IntKind.u32 (↑(Stp.n (Wrd.s (Drv.w d))) : Int)), T.v (Value.int IntKind.u8 (↑(Stp.b (Wrd.s (Drv.w d))) : Int)), T.v (Value.int IntKind.u8 (↑(Stp.l (Wrd.s (Drv.w d))) : Int)), T.v (Value.bool (Wrd.h (Drv.w d))), T.v (Value.string (Wrd.t (Drv.w d))), T.v (Value.bool (Wrd.r (Drv.w d))), T.v (Value.bool (Drv.own d)), T.mp (1 : Nat) m, T.v (Value.bool (Drv.cov d)), T.v (Value.int IntKind.i64 (↑(Drv.tk d) : Int))]), (m, Ob.map IntKind.u8 (ackF (Drv.acks d)) es ck)], gl := gl })) (g = g ∧ Q (T.tup [T.v (Value.bool true), T.v (Value.bool (Drv.cov d))]) [(g, Ob.cells [T.v (Value.int IntKind.u32 (↑(Stp.n (Wrd.s (Drv.w d))) : Int)), T.v (Value.int IntKind.u8 (↑(Stp.b (Wrd.s (Drv.w d))) : Int)), T.v (Value.int IntKind.u8 (↑(Stp.l (Wrd.s (Drv.w d))) : Int)), T.v (Value.bool (Wrd.h (Drv.w d))), T.v (Value.string (Wrd.t (Drv.w d))), T.v (Value.bool (Wrd.r (Drv.w d))), T.v (Value.bool (Drv.own d)), T.mp (1 : Nat) m, T.v (Value.bool (Drv.cov d)), T.v (Value.int IntKind.i64 (↑(Drv.tk d) : Int))]), (m, Ob.map IntKind.u8 (ackF (Drv.acks d)) es ck)] gl)) (by kernel_rfl) ?_
    repeat' (first | exact rfl | exact Nat.le_of_ble_eq_true rfl | refine And.intro ?_ ?_ | intro _ | refine bsplit_mk (fun _ => ?_) (fun _ => ?_))
    all_goals first
      | exact e1
      | exact congrArg some e2
      | exact congrArg int hw
      | (exfalso; rename_i h; have := of_decide_eq_false h; omega)
      | omega
      | (refine nx ?_; rename_i h; simpa using h)
      | (rename_i h; rw [no (by simpa using h)] at hQ; exact hQ)
      | trace_state
theorem ddone_ob (g m : Nat) (d : Drv) (es : Array MapEntry) (ck : Nat) (l : List Nat) (hl : l.length ≤ 1000000) (gl : Glb) (Q : T → Obs → Glb → Prop) (hQ : Q (.tup [bool (Rep.doneD d l), bool d.cov]) (obsD g m d es ck) gl) : TCalls Try.prog 82 [.ptr 0 g 0, .sl 1 (X5.u8s l)] (obsD g m d es ck) gl Q := by
  have lp := fun Γ => ddone_loop Γ g m d es ck l hl gl Q hQ l [] 0 rfl rfl rfl
  rw [← X5.u8s_len l] at lp
  clear hQ
  generalize X5.u8s l = L at *
  refine TCalls.of Try.func82 rfl (CanCall.of Try.func82 rfl (by decide)) [0, 1] fun Γ => ?_
  refine run_sound (⟨fun _ _ => .no, [((2, 4), ([0, 10, 11, 12], 2))], fun _ => none⟩) 400 (B := TWk Try.prog Γ (fin Try.prog Try.f82 [(0 : Nat), (1 : Nat)] Q) [It.code (sub (bd Try.f82) [(1 : Nat), (1 : Nat), (0 : Nat), (1 : Nat), (0 : Nat)]), It.blk (0 : Nat), It.code (sub (bd Try.f82) [(1 : Nat), (1 : Nat), (1 : Nat)])] { fr := [T.ptr (0 : Nat) g (0 : Nat), T.und, T.und, T.und, T.und, T.und, T.und, T.und, T.und, T.und, T.sl (1 : Nat) L, T.v (Value.int IntKind.i64 (↑(List.length L) : Int)), T.v (Value.int IntKind.i64 (0 : Int)), T.und, T.und, T.und, T.und, T.und, T.und, T.und, T.und, T.und, T.und, T.und, T.und, T.und, T.und, T.und, T.und, T.und, T.und, T.und], ob := [(g, Ob.cells [T.v (Value.int IntKind.u32 (↑(Stp.n (Wrd.s (Drv.w d))) : Int)), T.v (Value.int IntKind.u8 (↑(Stp.b (Wrd.s (Drv.w d))) : Int)), T.v (Value.int IntKind.u8 (↑(Stp.l (Wrd.s (Drv.w d))) : Int)), T.v (Value.bool (Wrd.h (Drv.w d))), T.v (Value.string (Wrd.t (Drv.w d))), T.v (Value.bool (Wrd.r (Drv.w d))), T.v (Value.bool (Drv.own d)), T.mp (1 : Nat) m, T.v (Value.bool (Drv.cov d)), T.v (Value.int IntKind.i64 (↑(Drv.tk d) : Int))]), (m, Ob.map IntKind.u8 (ackF (Drv.acks d)) es ck)], gl := gl }) (by kernel_rfl) ?_
  repeat' (first | exact rfl | exact Nat.le_of_ble_eq_true rfl | refine And.intro ?_ ?_ | intro _ | refine bsplit_mk (fun _ => ?_) (fun _ => ?_))
  exact lp _
/-! the same, of a drive in the family -/
def gD (m : Nat) (d : Drv) : Ob := .cells (drT d (.v (.map (some m))))
def setDr (gl : Glb) (g m : Nat) (d : Drv) (es : Array MapEntry) (ck : Nat) : Glb := setO (setO gl m (.map .u8 (ackF d.acks) es ck)) g (gD m d)
theorem drop2_set (gl : Glb) (g m : Nat) (d : Drv) (es : Array MapEntry) (ck : Nat) : setO (setO (dropO (dropO gl g) m) m (.map .u8 (ackF d.acks) es ck)) g (gD m d) = setDr gl g m d es ck := by
  funext j
  unfold setDr setO dropO
  by_cases h1 : j = g
  · simp [h1]
  · by_cases h2 : j = m
    · simp [h2]
    · simp [h1, h2]
theorem into_fam {g m : Nat} {d : Drv} {es : Array MapEntry} {ck : Nat} {gl : Glb} {ts : List T} : Imp ts (obsD g m d es ck) gl ts [] (setO (setO gl m (.map .u8 (ackF d.acks) es ck)) g (gD m d)) := by
  refine (Imp.cellR (i := 0) (j := 7) rfl rfl mp_v).trans ?_
  refine (Imp.intoG (ob := [(g, gD m d)]) (b := m) (X := .map .u8 (ackF d.acks) es ck) rfl).trans ?_
  exact Imp.intoG (ob := []) rfl
theorem out_fam {g m : Nat} {d : Drv} {es : Array MapEntry} {ck : Nat} {gl : Glb} {a : List T} (hg : gl g = some (gD m d)) (hm : gl m = some (.map .u8 (ackF d.acks) es ck)) (h : g ≠ m) : Imp (.gp g 0 :: a) [] gl (.ptr 0 g 0 :: a) (obsD g m d es ck) (dropO (dropO gl g) m) := by
  refine (Imp.slotR (j := 0) rfl (gp_ptr (i := 0))).trans ?_
  refine (Imp.outG (b := g) rfl hg).trans ?_
  refine (Imp.outG (b := m) rfl ((dropO_ne gl (Ne.symm h)).trans hm)).trans ?_
  exact Imp.cellR (i := 0) (b := g) (j := 7) (cs := drT d (.v (.map (some m)))) (t' := .mp 1 m) rfl rfl v_mp
theorem fam {f : FuncId} {a : List T} {g m : Nat} {d : Drv} {es : Array MapEntry} {ck : Nat} {gl : Glb} {Q Q' : T → Obs → Glb → Prop} (hg : gl g = some (gD m d)) (hm : gl m = some (.map .u8 (ackF d.acks) es ck)) (hne : g ≠ m)
    (h : TCalls Try.prog f (.ptr 0 g 0 :: a) (obsD g m d es ck) (dropO (dropO gl g) m) Q')
    (hq : ∀ r ob' gl', Q' r ob' gl' → ∃ d' es' ck', ob' = obsD g m d' es' ck' ∧ gl' = dropO (dropO gl g) m ∧ Q r [] (setDr gl g m d' es' ck')) : TCalls Try.prog f (.gp g 0 :: a) [] gl Q :=
  (h.post fun r ob' gl' hr => by
    obtain ⟨d', es', ck', rfl, rfl, h3⟩ := hq r ob' gl' hr
    refine ⟨r, [], _, into_fam, ?_⟩
    rw [drop2_set]
    exact h3).pre (out_fam hg hm hne)
theorem setDr_self {gl : Glb} {g m : Nat} {d : Drv} {es : Array MapEntry} {ck : Nat} (hg : gl g = some (gD m d)) (hm : gl m = some (.map .u8 (ackF d.acks) es ck)) : setDr gl g m d es ck = gl := by
  unfold setDr
  rw [setO_self gl hm, setO_self gl hg]
/-- a drive that lies in the family -/
def Lies (gl : Glb) (g m : Nat) (d : Drv) : Prop := gl g = some (gD m d) ∧ ∃ es ck, gl m = some (.map .u8 (ackF d.acks) es ck)
theorem Lies.ne {gl : Glb} {g m : Nat} {d : Drv} (h : Lies gl g m d) : g ≠ m := fun e => by
  obtain ⟨h1, es, ck, h2⟩ := h
  rw [e, h2] at h1
  cases h1
theorem dwordG {gl : Glb} {g m : Nat} {d : Drv} (h : Lies gl g m d) (Q : T → Obs → Glb → Prop) (hQ : Q (.agg (wdC d.w)) [] gl) : TCalls Try.prog 55 [.gp g 0] [] gl Q := by
  obtain ⟨hg, es, ck, hm⟩ := id h
  exact fam hg hm h.ne (dword_ob g m d es ck _ (fun r ob' gl' => r = .agg (wdC d.w) ∧ ob' = obsD g m d es ck ∧ gl' = dropO (dropO gl g) m) ⟨rfl, rfl, rfl⟩) (fun r ob' gl' ⟨h1, h2, h3⟩ => ⟨d, es, ck, h2, h3, by rw [h1, setDr_self hg hm]; exact hQ⟩)
theorem downG {gl : Glb} {g m : Nat} {d : Drv} (h : Lies gl g m d) (Q : T → Obs → Glb → Prop) (hQ : Q (bool d.own) [] gl) : TCalls Try.prog 56 [.gp g 0] [] gl Q := by
  obtain ⟨hg, es, ck, hm⟩ := id h
  exact fam hg hm h.ne (down_ob g m d es ck _ (fun r ob' gl' => r = bool d.own ∧ ob' = obsD g m d es ck ∧ gl' = dropO (dropO gl g) m) ⟨rfl, rfl, rfl⟩) (fun r ob' gl' ⟨h1, h2, h3⟩ => ⟨d, es, ck, h2, h3, by rw [h1, setDr_self hg hm]; exact hQ⟩)
theorem ddoneG {gl : Glb} {g m : Nat} {d : Drv} (h : Lies gl g m d) (l : List Nat) (hl : l.length ≤ 1000000) (Q : T → Obs → Glb → Prop) (hQ : Q (.tup [bool (Rep.doneD d l), bool d.cov]) [] gl) : TCalls Try.prog 82 [.gp g 0, .sl 1 (X5.u8s l)] [] gl Q := by
  obtain ⟨hg, es, ck, hm⟩ := id h
  exact fam hg hm h.ne (ddone_ob g m d es ck l hl _ (fun r ob' gl' => r = .tup [bool (Rep.doneD d l), bool d.cov] ∧ ob' = obsD g m d es ck ∧ gl' = dropO (dropO gl g) m) ⟨rfl, rfl, rfl⟩) (fun r ob' gl' ⟨h1, h2, h3⟩ => ⟨d, es, ck, h2, h3, by rw [h1, setDr_self hg hm]; exact hQ⟩)
theorem dtickG {gl : Glb} {g m : Nat} {d : Drv} (h : Lies gl g m d) (n : Nat) (hd : d.tk ≤ 1000000) (Q : T → Obs → Glb → Prop) (hQ : ∀ es ck, Q (bool (Rep.tickD d n).2) [] (setDr gl g m (Rep.tickD d n).1 es ck)) : TCalls Try.prog 67 [.gp g 0, int n] [] gl Q := by
  obtain ⟨hg, es, ck, hm⟩ := id h
  exact fam hg hm h.ne (dtick_ob g m d es ck n hd _ (fun r ob' gl' => r = bool (Rep.tickD d n).2 ∧ ob' = obsD g m (Rep.tickD d n).1 es ck ∧ gl' = dropO (dropO gl g) m) ⟨rfl, rfl, rfl⟩) (fun r ob' gl' ⟨h1, h2, h3⟩ => ⟨_, es, ck, h2, h3, by rw [h1]; exact hQ es ck⟩)
theorem dackG {gl : Glb} {g m : Nat} {d : Drv} (h : Lies gl g m d) (n : Nat) (c : Bool) (Q : T → Obs → Glb → Prop) (hQ : ∀ es ck, Q (.tup []) [] (setDr gl g m (Rep.ackD d n c) es ck)) : TCalls Try.prog 73 [.gp g 0, u8 n, bool c] [] gl Q := by
  obtain ⟨hg, es, ck, hm⟩ := id h
  exact fam hg hm h.ne (dack_ob g m d es ck n c _ (fun r ob' gl' => r = .tup [] ∧ (∃ es' ck', ob' = obsD g m (Rep.ackD d n c) es' ck') ∧ gl' = dropO (dropO gl g) m) fun es' ck' => ⟨rfl, ⟨es', ck', rfl⟩, rfl⟩) (fun r ob' gl' ⟨h1, ⟨es', ck', h2⟩, h3⟩ => ⟨_, es', ck', h2, h3, by rw [h1]; exact hQ es' ck'⟩)
theorem ackF_none : ackF (fun _ => false) = fun _ => none := by funext z; unfold ackF; simp
theorem dnewG (w : Wrd) (own : Bool) (gl : Glb) (Q : T → Obs → Glb → Prop) (hQ : ∀ g m es ck, gl g = none → gl m = none → g ≠ m → Q (.gp g 0) [] (setDr gl g m (Rep.newD w own) es ck)) : TCalls Try.prog 46 [.agg (wdC w), bool own] [] gl Q := by
  refine TCalls.postA (dnew_ob w own gl (fun r ob' gl' => ∃ g m, r = .ptr 1 g 0 ∧ ob' = [(m, .map .u8 (fun _ => none) #[] 0), (g, .cells (drT (Rep.newD w own) (.mp 0 m)))] ∧ gl' = gl) fun g m => ⟨g, m, rfl, rfl, rfl⟩) ?_
  rintro r ob' gl' ha ⟨g, m, rfl, rfl, rfl⟩
  have hg := ha.sep 1 _ g rfl rfl
  have hm := ha.sep 0 _ m rfl rfl
  have hne : g ≠ m := fun e => by have := ha.apart 1 0 _ _ g rfl rfl rfl (by rw [e]; rfl); omega
  refine ⟨.gp g 0, [], setDr gl' g m (Rep.newD w own) #[] 0, ?_, hQ g m #[] 0 hg hm hne⟩
  refine (Imp.slotR (j := 0) rfl ptr_gp).trans ?_
  refine (Imp.cellR (i := 1) (j := 7) rfl rfl mp_v).trans ?_
  refine (Imp.intoG (ob := [(m, .map .u8 (fun _ => none) #[] 0)]) (b := g) (X := gD m (Rep.newD w own)) rfl).trans ?_
  refine (Imp.intoG (ob := []) rfl).trans ?_
  unfold setDr
  rw [setO_comm _ _ _ hne, show ackF (Rep.newD w own).acks = fun _ => none from ackF_none]
  exact Imp.refl _ _ _
theorem dagainG {gl : Glb} {g m : Nat} {d : Drv} (h : Lies gl g m d) (Q : T → Obs → Glb → Prop) (hQ : ∀ m' es ck, gl m' = none → Q (.tup []) [] (setDr gl g m' (Rep.newD d.w d.own) es ck)) : TCalls Try.prog 34 [.gp g 0] [] gl Q := by
  obtain ⟨hg, es, ck, hm⟩ := id h
  refine TCalls.pre (TCalls.postA (dagain_ob g m d es ck (dropO (dropO gl g) m) (fun r ob' gl' => ∃ m', r = .tup [] ∧ ob' = [(g, .cells (drT (Rep.newD d.w d.own) (.mp 2 m'))), (m, .map .u8 (ackF d.acks) es ck), (m', .map .u8 (fun _ => none) #[] 0)] ∧ gl' = dropO (dropO gl g) m) fun m' => ⟨m', rfl, rfl, rfl⟩) ?_) (out_fam hg hm h.ne)
  rintro r ob' gl' ha ⟨m', rfl, rfl, rfl⟩
  have h1 := ha.sep 2 _ m' rfl rfl
  have n1 : m' ≠ g := fun e => by have := ha.apart 2 0 _ _ m' rfl rfl rfl (by rw [e]; rfl); omega
  have n2 : m' ≠ m := fun e => by have := ha.apart 2 1 _ _ m' rfl rfl rfl (by rw [e]; rfl); omega
  rw [dropO_ne _ n2, dropO_ne _ n1] at h1
  refine ⟨.tup [], [], setDr gl g m' (Rep.newD d.w d.own) #[] 0, ?_, hQ m' #[] 0 h1⟩
  refine (Imp.cellR (i := 0) (j := 7) rfl rfl mp_v).trans ?_
  refine (Imp.intoG (ob := [(g, gD m' (Rep.newD d.w d.own)), (m, .map .u8 (ackF d.acks) es ck)]) (b := m') (X := .map .u8 (fun _ => none) #[] 0) rfl).trans ?_
  refine (Imp.intoG (ob := [(g, gD m' (Rep.newD d.w d.own))]) (b := m) (X := .map .u8 (ackF d.acks) es ck) rfl).trans ?_
  refine (Imp.intoG (ob := []) rfl).trans ?_
  have e : setO (setO (setO (dropO (dropO gl g) m) m' (.map .u8 (fun _ => none) #[] 0)) m (.map .u8 (ackF d.acks) es ck)) g (gD m' (Rep.newD d.w d.own)) = setDr gl g m' (Rep.newD d.w d.own) #[] 0 := by
    unfold setDr
    rw [show ackF (Rep.newD d.w d.own).acks = fun _ => none from ackF_none]
    funext j
    unfold setO dropO
    by_cases e1 : j = g
    · simp [e1]
    · by_cases e2 : j = m'
      · subst e2; simp [e1, n2]
      · by_cases e3 : j = m
        · subst e3; simp [e1, e2, hm]
        · simp [e1, e2, e3]
  rw [e]
  exact Imp.refl _ _ _
end X20
end Go.Proofs.Ytafcbipmmjegcaa.Vm
