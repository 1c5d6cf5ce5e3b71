/- Texts of this claim: AcG, AcK, PB. -/
import Derived.Test.YtpjkdcbogjigeaaGreatMg15
import Derived.Test.YtpjkdcbogjigeaaGreatMg23
import Derived.Test.YtpjkdcbogjigeaaGreatMg22
namespace Go.Proofs.YtpjkdcbogjigeaaGreat.Vm
open Go Go.RowKit
set_option maxRecDepth 100000
noncomputable abbrev kAcG0 (l : List Nat) : It := .code (sub (bd Tryz.f124) l)
noncomputable abbrev wAcG1 (Γ : Ctx) (Q : T → Obs → Glb → Prop) : List It → S → Prop := TWk Tryz.prog Γ (fin Tryz.prog Tryz.f124 [0, 1, 2, 3, 4] Q)
namespace X11
open Acp (En AS Rc blw VOk IsE XOk Inv)
open View (VS Mem)
open X5 (viewC mems memC)
open Jrn (Dk)
open X9 (dkC)
open X10 (strs jC)
theorem enC_ix (y : En) : (enC y).all noIx = true := rfl
theorem flat_ix : ∀ l : List En, (Row.flat enC l).all noIx = true
  | [] => rfl
  | x :: l => by rw [Row.flat_cons, List.all_append, enC_ix x, flat_ix l]; rfl
theorem und_ix (n : Nat) : (List.replicate n T.und).all noIx = true := by
  induction n with
  | zero => rfl
  | succ n ih => rw [List.replicate_succ, List.all_cons, ih]; rfl
theorem enF_of {E : Nat → Option En} (hE : ∀ k y, E k = some y → y.slot = k) {y : Int} {t : T} (h : enF E y = some t) : ∃ c : En, y = (c.slot : Int) ∧ E c.slot = some c ∧ t = .agg (enC c) := by
  unfold enF at h
  split at h
  · rename_i hy
    cases hc : E y.toNat with
    | none => rw [hc] at h; cases h
    | some c =>
      rw [hc] at h
      injection h with h
      have := hE _ _ hc
      exact ⟨c, by omega, by rw [this]; exact hc, h.symm⟩
  · cases h
theorem enF_at {E : Nat → Option En} {c : En} (h : E c.slot = some c) : enF E (c.slot : Int) = some (.agg (enC c)) := by
  unfold enF
  rw [if_pos (by omega), Int.toNat_natCast, h]; rfl
theorem snoc_row (l : List En) (c : En) (R : List T) : setCells (Row.flat enC l ++ R) (0 + l.length * 8) (enC c) = Row.flat enC (l ++ [c]) ++ R.drop 8 := by
  have hl : (Row.flat enC l).length = l.length * 8 := Row.flat_len enC_len l
  unfold setCells
  rw [Nat.zero_add, ← hl, List.take_left, Row.flat_app, enC_len, List.drop_append, List.drop_of_length_le (by omega)]
  simp [Row.flat]
section
variable (db jb ab mb : Nat) (d : Dk) (l : List (List UInt8)) (hd : Value) (dead : Bool) (x : AS) (es : Array MapEntry) (ck : Nat) (Γ : Ctx) (frm ib : Nat) (Q : T → Obs → Glb → Prop)
theorem en_doneS (L : List En) (hL : IsE x.E frm L) (hl16 : L.length ≤ 16) (hQ : Q (.sl 8 (Row.aggs enC L)) (obsA db jb ab mb d l hd dead x es ck) none_) (e : List En) (R : List T) (hx : R.all noIx = true) (g cap : Nat) (cur : Option Int) (left : List Int) (h0 : left = []) (h : Inv x.E frm e left) :
    wAcG1 Γ Q [kAcG0 [1,1,1,0,1,0], .blk 0, kAcG0 [1,1,1,1]] ⟨frame 31 [(1, u32 frm), (5, .sa 6 g 0 e.length cap), (15, .ptr 5 ib 0)], obsA db jb ab mb d l hd dead x es ck ++ [(ib, .iter 4 mb .u32 es ck left cur), (g, .cells (Row.flat enC e ++ R))], none_⟩ := by
  subst h0
  have hs := h.sub hL
  obtain ⟨e', hp⟩ : ∃ e' : List En, e' = L := ⟨L, rfl⟩
  have hu : ∀ l' : List En, l'.Perm e → l'.Pairwise (fun a b => a.slot ≤ b.slot) → l' = L := fun l' h1 h2 => (h.end_ h1 h2).uniq hL
  have hn : e.length = L.length := by
    refine Nat.le_antisymm hs (Acp.len_sub (by have := hL.s; unfold Acp.Srt at this; exact this.imp fun hlt e => by subst e; omega) fun y hy => ?_)
    have := (hL.m y).1 hy
    exact (h.c y this.1 this.2).resolve_right (by simp)
  refine en_endS db jb ab mb d l hd dead x es ck Γ frm ib Q g e.length cap _ [] cur rfl (Row.flat enC L ++ R) (by rw [List.all_append, flat_ix, hx]; rfl) (by rw [List.all_append, flat_ix, hx]; rfl)
    (fun Q' hq => sort_any g e.length cap e R rfl (by omega) Q' fun l' h1 h2 => by rw [hu l' h1 h2]; exact hq) ?_
  exact TWk.impM (en_ret db jb ab mb d l hd dead x es ck Γ ib Q (Row.aggs enC L) [] cur hQ) (ImpM.slot (i := 6) (b := g) true 8 5 (Row.aggs enC L) rfl rfl (fun h => by cases h) (Row.fz_len enC_len rfl hn) (Row.fz_one enC_len enC_one rfl hn) (Row.fz_es enC_len rfl hn))
theorem en_loopS (hE : ∀ k y, x.E k = some y → y.slot = k) (L : List En) (hL : IsE x.E frm L) (hl16 : L.length ≤ 16) (hQ : Q (.sl 8 (Row.aggs enC L)) (obsA db jb ab mb d l hd dead x es ck) none_) : ∀ (n : Nat) (left : List Int) (e : List En) (R : List T) (g cap : Nat) (cur : Option Int), left.length = n → R.all noIx = true → e.length * 8 + R.length = cap * 8 → Inv x.E frm e left →
    wAcG1 Γ Q [kAcG0 [1,1,1,0,1,0], .blk 0, kAcG0 [1,1,1,1]] ⟨frame 31 [(1, u32 frm), (5, .sa 6 g 0 e.length cap), (15, .ptr 5 ib 0)], obsA db jb ab mb d l hd dead x es ck ++ [(ib, .iter 4 mb .u32 es ck left cur), (g, .cells (Row.flat enC e ++ R))], none_⟩ := by
  intro n
  induction n with
  | zero =>
    intro left e R g cap cur hn hx hR h
    exact en_doneS db jb ab mb d l hd dead x es ck Γ frm ib Q L hL hl16 hQ e R hx g cap cur left (List.eq_nil_of_length_eq_zero hn) h
  | succ n ih =>
    intro left e R g cap cur hn hx hR h
    have hs := h.sub hL
    refine en_nextS db jb ab mb d l hd dead x es ck Γ frm ib Q g e.length cap _ left cur (fun e => by subst e; simp at hn) fun y t hy ht => ?_
    obtain ⟨c, rfl, hc, rfl⟩ := enF_of hE ht
    have hlen : (left.erase (c.slot : Int)).length = n := by rw [List.length_erase_of_mem hy]; omega
    have hfl : (Row.flat enC e).length = e.length * 8 := Row.flat_len enC_len e
    have hl1 : (e ++ [c]).length = e.length + 1 := by simp
    refine en_bodyS db jb ab mb d l hd dead x es ck Γ frm ib Q g e.length cap _ _ _ _ _ c (enF_at hc) (by omega) (fun hcap => by rw [List.length_append]; omega) (snoc_row e c R) (by rw [List.length_append]; omega) (by rw [Row.takes enC_len]; exact Row.one enC_one e) rfl (fun hf hcap => ?_) (fun hf g2 cap2 hcap => ?_) (fun hf => ?_)
    · have := ih (left.erase (c.slot : Int)) (e ++ [c]) (R.drop 8) g cap (some (c.slot : Int)) hlen (by
        rw [List.all_eq_true] at hx ⊢
        exact fun z hz => hx z (List.mem_of_mem_drop hz)) (by rw [hl1, List.length_drop]; omega) (h.put c hc hy (by omega))
      rw [hl1] at this
      exact this
    · have := ih (left.erase (c.slot : Int)) (e ++ [c]) (List.replicate ((cap2 - (e.length + 1)) * 8) .und) g2 cap2 (some (c.slot : Int)) hlen (und_ix _) (by rw [hl1, List.length_replicate]; omega) (h.put c hc hy (by omega))
      rw [hl1] at this
      rw [Row.takes enC_len]
      rw [Row.flat_app] at this
      have e1 : Row.flat enC [c] = enC c := by simp [Row.flat]
      rw [e1] at this
      exact this
    · exact ih (left.erase (c.slot : Int)) e R g cap (some (c.slot : Int)) hlen hx hR (h.skip c (by omega))
theorem en_loopN (hE : ∀ k y, x.E k = some y → y.slot = k) (L : List En) (hL : IsE x.E frm L) (hl16 : L.length ≤ 16) (hQ : Q (.sl 8 (Row.aggs enC L)) (obsA db jb ab mb d l hd dead x es ck) none_) (hN : L = [] → Q (.v nilS) (obsA db jb ab mb d l hd dead x es ck) none_) : ∀ (n : Nat) (left : List Int) (cur : Option Int), left.length = n → Inv x.E frm [] left →
    wAcG1 Γ Q [kAcG0 [1,1,1,0,1,0], .blk 0, kAcG0 [1,1,1,1]] ⟨frame 31 [(1, u32 frm), (5, .v nilS), (15, .ptr 5 ib 0)], obsA db jb ab mb d l hd dead x es ck ++ [(ib, .iter 4 mb .u32 es ck left cur)], none_⟩ := by
  intro n
  induction n with
  | zero =>
    intro left cur hn h
    have h0 : left = [] := List.eq_nil_of_length_eq_zero hn
    subst h0
    refine en_endN db jb ab mb d l hd dead x es ck Γ frm ib Q [] cur rfl (fun Q' hq => sort_nil Q' hq) (hN ?_)
    cases L with
    | nil => rfl
    | cons y L =>
      have := (hL.m y).1 (List.mem_cons_self ..)
      exact absurd (h.c y this.1 this.2) (by simp)
  | succ n ih =>
    intro left cur hn h
    refine en_nextN db jb ab mb d l hd dead x es ck Γ frm ib Q left cur (fun e => by subst e; simp at hn) fun y t hy ht => ?_
    obtain ⟨c, rfl, hc, rfl⟩ := enF_of hE ht
    have hlen : (left.erase (c.slot : Int)).length = n := by rw [List.length_erase_of_mem hy]; omega
    refine en_bodyN db jb ab mb d l hd dead x es ck Γ frm ib Q _ _ c (enF_at hc) (fun hf g cap hcap => ?_) (fun hf => ?_)
    · have := en_loopS db jb ab mb d l hd dead x es ck Γ frm ib Q hE L hL hl16 hQ n (left.erase (c.slot : Int)) [c] (List.replicate ((cap - 1) * 8) .und) g cap (some (c.slot : Int)) hlen (und_ix _) (by rw [List.length_replicate]; show 1 * 8 + _ = _; omega) (h.put c hc hy (by omega))
      have e1 : Row.flat enC [c] = enC c := by simp [Row.flat]
      rw [e1] at this
      exact this
    · exact ih (left.erase (c.slot : Int)) (some (c.slot : Int)) hlen (h.skip c (by omega))
end
section
variable (db jb ab mb : Nat) (d : Dk) (l : List (List UInt8)) (hd : Value) (dead : Bool) (x : AS) (es : Array MapEntry) (ck : Nat)
theorem enF_some {E : Nat → Option En} {y : En} (h : E y.slot = some y) : (enF E (y.slot : Int)).isSome = true := by rw [enF_at h]; rfl
theorem entries_raw (hx : XOk x) (frm : Nat) (L : List En) (hL : IsE x.E frm L) (Q : T → Obs → Glb → Prop) (hQ : Q (.sl 8 (Row.aggs enC L)) (obsA db jb ab mb d l hd dead x es ck) none_) (hN : L = [] → Q (.v nilS) (obsA db jb ab mb d l hd dead x es ck) none_) : TCalls Tryz.prog 124 [.ptr 3 ab 0, u32 frm] (obsA db jb ab mb d l hd dead x es ck) none_ Q := by
  have lp := fun Γ ib left (hnd : left.Nodup) (hm : ∀ y, y ∈ left ↔ (enF x.E y).isSome = true) => en_loopN db jb ab mb d l hd dead x es ck Γ frm ib Q (fun k y h => (hx.E k y h).1) L hL (hx.len hL) hQ hN left.length left none rfl
    ⟨List.nodup_nil, (fun y hy => nomatch hy), (fun y h1 _ => .inr ((hm _).2 (enF_some h1))), hnd⟩
  clear hQ hN
  refine TCalls.of Tryz.func124 rfl (CanCall.of Tryz.func124 rfl (by decide)) [0,1,2,3,4] fun Γ => ?_
  let HH : Nat → Nat → Hint := fun _ _ => .no
  exact run_sound ⟨HH, [((2, 5), ([1,5,15], 6))], fun _ => none⟩ 400 (by kernel_rfl) (Yb ab (Yb mb (fun (Z0 : Nat) => (fun (Z1 : List Int) => (fun (Z2 : List.Nodup Z1) => (fun (Z3 : ∀ (z : Int), z ∈ Z1 ↔ Option.isSome (enF x.E z) = true) => (lp Γ Z0 Z1 Z2 Z3)))))))
theorem entries_any (hx : XOk x) (frm : Nat) (L : List En) (hL : IsE x.E frm L) (Q : T → Obs → Glb → Prop) (hQ : Q (.sl 8 (Row.aggs enC L)) (obsA db jb ab mb d l hd dead x es ck) none_) : TCalls Tryz.prog 124 [.ptr 3 ab 0, u32 frm] (obsA db jb ab mb d l hd dead x es ck) none_ Q :=
  TCalls.post (entries_raw db jb ab mb d l hd dead x es ck hx frm L hL (fun r ob gl => (r = .sl 8 (Row.aggs enC L) ∨ r = .v nilS ∧ L = []) ∧ ob = obsA db jb ab mb d l hd dead x es ck ∧ gl = none_) ⟨.inl rfl, rfl, rfl⟩ fun h => ⟨.inr ⟨rfl, h⟩, rfl, rfl⟩) (by
    rintro r ob gl ⟨h, rfl, rfl⟩
    rcases h with rfl | ⟨rfl, rfl⟩
    · exact ⟨_, _, _, Imp.slotR (j := 0) rfl fun M v h => h, hQ⟩
    · exact ⟨.sl 8 [], _, _, Imp.slotR (ts := [.v nilS]) (j := 0) (t' := .sl 8 []) rfl (fun M v h => by
        simp only [Rel] at h ⊢
        exact ⟨none, 0, h, ⟨Nat.le_refl _, by omega, fun _ => ⟨rfl, rfl⟩, fun a _ h => absurd h (by omega)⟩, by simp [El], fun _ _ _ => by simp only [RelE]⟩), hQ⟩)
end
end X11
end Go.Proofs.YtpjkdcbogjigeaaGreat.Vm
namespace Go.Proofs.YtpjkdcbogjigeaaGreat.Vm
open Go Go.RowKit
namespace X11
open Acp (En AS Rc blw VOk IsE XOk)
open View (VS Mem)
open X5 (viewC mems memC firstM firstL)
open Jrn (Dk)
open X9 (dkC obsK dkH dk_post)
open X10 (strs jC obsJ)
theorem new_post : TCalls Tryz.prog 7 [] [] none_ (callPost nwH) := X9.dnew_any _ fun b => ⟨b, trivial, rfl, rfl, Nat.zero_le _, fun h => by cases h⟩
def opnP (db : Nat) (l : List (List UInt8)) (x : AS) : Hint := .call false (Nat × Nat × Nat × Value × Array MapEntry × Nat) (fun _ => True) [0] false (fun a => .tup [.ptr 3 a.2.1 0, int 0]) (fun a => obsA db a.1 a.2.1 a.2.2.1 (Jrn.jd l) l a.2.2.2.1 false x a.2.2.2.2.1 a.2.2.2.2.2) (fun _ => none_)
def opnH (i : Nat) (l : List (List UInt8)) (x : AS) : Hint := .withB fun B => .call false (Nat × Nat × Nat × Value × Array MapEntry × Nat) (fun _ => True) [i] false (fun a => .tup [.ptr 3 a.2.1 0, int 0]) (fun a => obsA (B.getD i 0) a.1 a.2.1 a.2.2.1 (Jrn.jd l) l a.2.2.2.1 false x a.2.2.2.2.1 a.2.2.2.2.2) (fun _ => none_)
theorem opn_post (db self : Nat) (v : VS) (hg : 1 ≤ self ∧ self ≤ 5) (hv8 : VOk v) (rs : List Rc) (hR : ∀ r ∈ rs, r.Ok) (hn : rs.length ≤ 100000) (l : List (List UInt8)) (hl : l = (Rc.birth self 0 v :: rs).map Rc.b) (hv : Jrn.Vs l) (x : AS) (hx : Acp.run Acp.st0 (Rc.birth self 0 v :: rs) = x) :
    TCalls Tryz.prog 41 [.ptr 0 db 0, u8 self] (obsK db (Jrn.jd l)) none_ (callPost (opnP db l x)) :=
  open_ok db self v hg hv8 rs hR hn l hl hv _ fun jb ab mb hd es ck => ⟨(jb, ab, mb, hd, es, ck), trivial, rfl, by rw [hx], Nat.le_of_ble_eq_true rfl, fun h => by cases h⟩
def v2 : VS := ⟨1, firstM 2, firstL 2⟩
def y9 : En := ⟨0, 1, 2, 9, 1, 0, 9, 4⟩
def x1 : AS := Acp.cut Acp.st0 0 v2
def x2 : AS := Acp.accept x1 y9
def x3 : AS := Acp.promise x2 2 1
def l1 : List (List UInt8) := [(Rc.birth 1 0 v2).b]
def l2 : List (List UInt8) := l1 ++ [(Rc.acc y9).b]
theorem vs_add {l : List (List UInt8)} (h : Jrn.Vs l) {r : Rc} (hr : r.Ok) (h2 : (Jrn.flat l).length + 70 ≤ 1048576) : Jrn.Vs (l ++ [r.b]) ∧ (Jrn.flat (l ++ [r.b])).length ≤ (Jrn.flat l).length + 70 := by
  have hb := (Rc.b_len hr).2
  have e : (Jrn.flat (l ++ [r.b])).length = (Jrn.flat l).length + (r.b.length + 6) := by
    unfold Jrn.flat
    rw [List.flatMap_append, List.length_append]
    simp [Jrn.frL_len]
  refine ⟨⟨fun t ht => ?_, by omega⟩, by omega⟩
  rcases List.mem_append.1 ht with h1 | h1
  · exact h.1 t h1
  · rw [List.mem_singleton.1 h1]; exact Rc.vr hr
theorem vs_one (self : Nat) (hs : self < 256) (v : VS) (hv : VOk v) : Jrn.Vs [(Rc.birth self 0 v).b] ∧ (Jrn.flat [(Rc.birth self 0 v).b]).length ≤ 70 := by
  have := vs_add Jrn.vs_nil (r := .birth self 0 v) ⟨hs, by decide, hv⟩ (by decide)
  exact ⟨this.1, Nat.le_trans this.2 (by decide)⟩
end X11
end Go.Proofs.YtpjkdcbogjigeaaGreat.Vm
namespace Go.Proofs.YtpjkdcbogjigeaaGreat.Vm
open Go Go.RowKit
set_option maxRecDepth 100000
namespace X12
structure Bal where
  n : Int
  b : Int
structure Cmd where
  k : Int
  d : Int
  l : Int
  e : Int
  q : Int
structure Ent where
  s : Int
  n : Int
  b : Int
  c : Cmd
def cmdC (x : Cmd) : List T := [u8 x.k, u8 x.d, u8 x.l, u32 x.e, u32 x.q]
def entC (x : Ent) : List T := [u32 x.s, u32 x.n, u8 x.b, u8 x.c.k, u8 x.c.d, u8 x.c.l, u32 x.c.e, u32 x.c.q]
def prC (x : Ent) (m : Int) : List T := [u32 x.s, u32 x.n, u8 x.b, u8 x.c.k, u8 x.c.d, u8 x.c.l, u32 x.c.e, u32 x.c.q, u64 m]
structure P0 where
  ms : Int
  ph : Int
  n : Int
  b : Int
  fr : Int
  nx : Int
  pm : Int
def pC (x : P0) (bm sl : T) : List T := [int x.ms, int x.ph, u32 x.n, u8 x.b, u32 x.fr, u32 x.nx, u64 x.pm, bm, sl]
def nilM : T := .v (.map none)
def nilL : T := .v (.slice none 0 0)
def hasM (m i : Int) : Bool := (m.toNat >>> i.toNat) % 2 == 1
def withM (m i : Int) : Int := if hasM m i then m else m + 2 ^ i.toNat
def cntM (m : Int) : Int := (((List.range 6).filter fun i : Nat => hasM m (i : Int)).length : Nat)
def Mask (m : Int) : Prop := 0 ≤ m ∧ m < 64
def Mas (i : Int) : Prop := 1 ≤ i ∧ i ≤ 5
theorem Mask.fin {m : Int} (h : Mask m) : ∃ k : Fin 64, m = (k.val : Int) := ⟨⟨m.toNat, by have := h.1; have := h.2; omega⟩, by have := h.1; simp; omega⟩
theorem Mas.fin {m : Int} (h : Mas m) : ∃ k : Fin 5, m = (k.val : Int) + 1 := ⟨⟨m.toNat - 1, by have := h.1; have := h.2; omega⟩, by have := h.1; simp; omega⟩
theorem has_any {m i : Int} (hm : Mask m) (hi : Mas i) (Q : T → Obs → Glb → Prop) (hQ : ∀ r, r = bool (hasM m i) → Q r [] none_) : TCalls Tryz.prog 125 [u64 m, u8 i] [] none_ Q := by
  refine TCalls.of Tryz.func125 rfl (CanCall.of Tryz.func125 rfl (by decide)) [] fun Γ => ?_
  refine run_sound (⟨fun _ _ => .no, [], fun _ => none⟩) 400 (B := ¬i < (0 : Int) ∧ Q (bool (IntKind.wrap IntKind.u64 (↑(BitVec.toNat (BitVec.ofInt 64 (Int.fdiv m ((2 : Int) ^ min (Int.toNat i) 64)) &&& BitVec.ofInt 64 (1 : Int))) : Int) == (1 : Int))) [] fun x => none) (by kernel_rfl) ?_
  refine ⟨by have := hi.1; omega, hQ _ ?_⟩
  obtain ⟨k, rfl⟩ := hm.fin
  obtain ⟨j, rfl⟩ := hi.fin
  refine congrArg (fun b => T.v (Value.bool b)) ?_
  clear hm hi hQ
  revert k j
  decide +kernel
theorem with_any {m i : Int} (hm : Mask m) (hi : Mas i) (Q : T → Obs → Glb → Prop) (hQ : ∀ r, r = u64 (withM m i) → Q r [] none_) : TCalls Tryz.prog 113 [u64 m, u8 i] [] none_ Q := by
  refine TCalls.of Tryz.func113 rfl (CanCall.of Tryz.func113 rfl (by decide)) [] fun Γ => ?_
  refine run_sound (⟨fun _ _ => .no, [], fun _ => none⟩) 400 (B := ¬i < (0 : Int) ∧ Q (u64 (IntKind.wrap IntKind.u64 (↑(BitVec.toNat (BitVec.ofInt 64 m ||| BitVec.ofInt 64 (IntKind.wrap IntKind.u64 ((1 : Int) * (2 : Int) ^ min (Int.toNat i) 64)))) : Int))) [] fun x => none) (by kernel_rfl) ?_
  refine ⟨by have := hi.1; omega, hQ _ ?_⟩
  obtain ⟨k, rfl⟩ := hm.fin
  obtain ⟨j, rfl⟩ := hi.fin
  refine congrArg (fun b => T.v (Value.int .u64 b)) ?_
  clear hm hi hQ
  revert k j
  decide +kernel
theorem withM_mask {m i : Int} (hm : Mask m) (hi : Mas i) : Mask (withM m i) := by
  obtain ⟨k, rfl⟩ := hm.fin
  obtain ⟨j, rfl⟩ := hi.fin
  have : ∀ (k : Fin 64) (j : Fin 5), 0 ≤ withM k.val (j.val + 1) ∧ withM k.val (j.val + 1) < 64 := by decide +kernel
  exact this k j
theorem ones64_any {m : Int} (hm : Mask m) (Q : T → Obs → Glb → Prop) (hQ : ∀ r, r = int (cntM m) → Q r [] none_) : TCalls Tryz.prog 162 [u64 m] [] none_ Q := by
  refine TCalls.of Tryz.func162 rfl (CanCall.of Tryz.func162 rfl (by decide)) [] fun Γ => ?_
  refine run_sound (⟨fun _ _ => .no, [], fun _ => none⟩) 400 (B := Q (int (IntKind.wrap IntKind.i64 (↑(BitVec.toNat (BitVec.ofInt 64 (IntKind.wrap IntKind.i64 (IntKind.wrap IntKind.u64 (IntKind.wrap IntKind.u64 (IntKind.wrap IntKind.u64 (IntKind.wrap IntKind.u64 (↑(BitVec.toNat (BitVec.ofInt 64 (IntKind.wrap IntKind.u64 (Int.fdiv (IntKind.wrap IntKind.u64 (IntKind.wrap IntKind.u64 (↑(BitVec.toNat (BitVec.ofInt 64 (Int.fdiv (IntKind.wrap IntKind.u64 (IntKind.wrap IntKind.u64 (↑(BitVec.toNat (BitVec.ofInt 64 (Int.fdiv m ((2 : Int) ^ min (Int.toNat (1 : Int)) 64)) &&& BitVec.ofInt 64 (6148914691236517205 : Int))) : Int) + IntKind.wrap IntKind.u64 (↑(BitVec.toNat (BitVec.ofInt 64 m &&& BitVec.ofInt 64 (6148914691236517205 : Int))) : Int))) ((2 : Int) ^ min (Int.toNat (2 : Int)) 64)) &&& BitVec.ofInt 64 (3689348814741910323 : Int))) : Int) + IntKind.wrap IntKind.u64 (↑(BitVec.toNat (BitVec.ofInt 64 (IntKind.wrap IntKind.u64 (IntKind.wrap IntKind.u64 (↑(BitVec.toNat (BitVec.ofInt 64 (Int.fdiv m ((2 : Int) ^ min (Int.toNat (1 : Int)) 64)) &&& BitVec.ofInt 64 (6148914691236517205 : Int))) : Int) + IntKind.wrap IntKind.u64 (↑(BitVec.toNat (BitVec.ofInt 64 m &&& BitVec.ofInt 64 (6148914691236517205 : Int))) : Int))) &&& BitVec.ofInt 64 (3689348814741910323 : Int))) : Int))) ((2 : Int) ^ min (Int.toNat (4 : Int)) 64) + IntKind.wrap IntKind.u64 (IntKind.wrap IntKind.u64 (↑(BitVec.toNat (BitVec.ofInt 64 (Int.fdiv (IntKind.wrap IntKind.u64 (IntKind.wrap IntKind.u64 (↑(BitVec.toNat (BitVec.ofInt 64 (Int.fdiv m ((2 : Int) ^ min (Int.toNat (1 : Int)) 64)) &&& BitVec.ofInt 64 (6148914691236517205 : Int))) : Int) + IntKind.wrap IntKind.u64 (↑(BitVec.toNat (BitVec.ofInt 64 m &&& BitVec.ofInt 64 (6148914691236517205 : Int))) : Int))) ((2 : Int) ^ min (Int.toNat (2 : Int)) 64)) &&& BitVec.ofInt 64 (3689348814741910323 : Int))) : Int) + IntKind.wrap IntKind.u64 (↑(BitVec.toNat (BitVec.ofInt 64 (IntKind.wrap IntKind.u64 (IntKind.wrap IntKind.u64 (↑(BitVec.toNat (BitVec.ofInt 64 (Int.fdiv m ((2 : Int) ^ min (Int.toNat (1 : Int)) 64)) &&& BitVec.ofInt 64 (6148914691236517205 : Int))) : Int) + IntKind.wrap IntKind.u64 (↑(BitVec.toNat (BitVec.ofInt 64 m &&& BitVec.ofInt 64 (6148914691236517205 : Int))) : Int))) &&& BitVec.ofInt 64 (3689348814741910323 : Int))) : Int)))) &&& BitVec.ofInt 64 (1085102592571150095 : Int))) : Int) + Int.fdiv (IntKind.wrap IntKind.u64 (↑(BitVec.toNat (BitVec.ofInt 64 (IntKind.wrap IntKind.u64 (Int.fdiv (IntKind.wrap IntKind.u64 (IntKind.wrap IntKind.u64 (↑(BitVec.toNat (BitVec.ofInt 64 (Int.fdiv (IntKind.wrap IntKind.u64 (IntKind.wrap IntKind.u64 (↑(BitVec.toNat (BitVec.ofInt 64 (Int.fdiv m ((2 : Int) ^ min (Int.toNat (1 : Int)) 64)) &&& BitVec.ofInt 64 (6148914691236517205 : Int))) : Int) + IntKind.wrap IntKind.u64 (↑(BitVec.toNat (BitVec.ofInt 64 m &&& BitVec.ofInt 64 (6148914691236517205 : Int))) : Int))) ((2 : Int) ^ min (Int.toNat (2 : Int)) 64)) &&& BitVec.ofInt 64 (3689348814741910323 : Int))) : Int) + IntKind.wrap IntKind.u64 (↑(BitVec.toNat (BitVec.ofInt 64 (IntKind.wrap IntKind.u64 (IntKind.wrap IntKind.u64 (↑(BitVec.toNat (BitVec.ofInt 64 (Int.fdiv m ((2 : Int) ^ min (Int.toNat (1 : Int)) 64)) &&& BitVec.ofInt 64 (6148914691236517205 : Int))) : Int) + IntKind.wrap IntKind.u64 (↑(BitVec.toNat (BitVec.ofInt 64 m &&& BitVec.ofInt 64 (6148914691236517205 : Int))) : Int))) &&& BitVec.ofInt 64 (3689348814741910323 : Int))) : Int))) ((2 : Int) ^ min (Int.toNat (4 : Int)) 64) + IntKind.wrap IntKind.u64 (IntKind.wrap IntKind.u64 (↑(BitVec.toNat (BitVec.ofInt 64 (Int.fdiv (IntKind.wrap IntKind.u64 (IntKind.wrap IntKind.u64 (↑(BitVec.toNat (BitVec.ofInt 64 (Int.fdiv m ((2 : Int) ^ min (Int.toNat (1 : Int)) 64)) &&& BitVec.ofInt 64 (6148914691236517205 : Int))) : Int) + IntKind.wrap IntKind.u64 (↑(BitVec.toNat (BitVec.ofInt 64 m &&& BitVec.ofInt 64 (6148914691236517205 : Int))) : Int))) ((2 : Int) ^ min (Int.toNat (2 : Int)) 64)) &&& BitVec.ofInt 64 (3689348814741910323 : Int))) : Int) + IntKind.wrap IntKind.u64 (↑(BitVec.toNat (BitVec.ofInt 64 (IntKind.wrap IntKind.u64 (IntKind.wrap IntKind.u64 (↑(BitVec.toNat (BitVec.ofInt 64 (Int.fdiv m ((2 : Int) ^ min (Int.toNat (1 : Int)) 64)) &&& BitVec.ofInt 64 (6148914691236517205 : Int))) : Int) + IntKind.wrap IntKind.u64 (↑(BitVec.toNat (BitVec.ofInt 64 m &&& BitVec.ofInt 64 (6148914691236517205 : Int))) : Int))) &&& BitVec.ofInt 64 (3689348814741910323 : Int))) : Int)))) &&& BitVec.ofInt 64 (1085102592571150095 : Int))) : Int)) ((2 : Int) ^ min (Int.toNat (8 : Int)) 64)) + Int.fdiv (IntKind.wrap IntKind.u64 (IntKind.wrap IntKind.u64 (↑(BitVec.toNat (BitVec.ofInt 64 (IntKind.wrap IntKind.u64 (Int.fdiv (IntKind.wrap IntKind.u64 (IntKind.wrap IntKind.u64 (↑(BitVec.toNat (BitVec.ofInt 64 (Int.fdiv (IntKind.wrap IntKind.u64 (IntKind.wrap IntKind.u64 (↑(BitVec.toNat (BitVec.ofInt 64 (Int.fdiv m ((2 : Int) ^ min (Int.toNat (1 : Int)) 64)) &&& BitVec.ofInt 64 (6148914691236517205 : Int))) : Int) + IntKind.wrap IntKind.u64 (↑(BitVec.toNat (BitVec.ofInt 64 m &&& BitVec.ofInt 64 (6148914691236517205 : Int))) : Int))) ((2 : Int) ^ min (Int.toNat (2 : Int)) 64)) &&& BitVec.ofInt 64 (3689348814741910323 : Int))) : Int) + IntKind.wrap IntKind.u64 (↑(BitVec.toNat (BitVec.ofInt 64 (IntKind.wrap IntKind.u64 (IntKind.wrap IntKind.u64 (↑(BitVec.toNat (BitVec.ofInt 64 (Int.fdiv m ((2 : Int) ^ min (Int.toNat (1 : Int)) 64)) &&& BitVec.ofInt 64 (6148914691236517205 : Int))) : Int) + IntKind.wrap IntKind.u64 (↑(BitVec.toNat (BitVec.ofInt 64 m &&& BitVec.ofInt 64 (6148914691236517205 : Int))) : Int))) &&& BitVec.ofInt 64 (3689348814741910323 : Int))) : Int))) ((2 : Int) ^ min (Int.toNat (4 : Int)) 64) + IntKind.wrap IntKind.u64 (IntKind.wrap IntKind.u64 (↑(BitVec.toNat (BitVec.ofInt 64 (Int.fdiv (IntKind.wrap IntKind.u64 (IntKind.wrap IntKind.u64 (↑(BitVec.toNat (BitVec.ofInt 64 (Int.fdiv m ((2 : Int) ^ min (Int.toNat (1 : Int)) 64)) &&& BitVec.ofInt 64 (6148914691236517205 : Int))) : Int) + IntKind.wrap IntKind.u64 (↑(BitVec.toNat (BitVec.ofInt 64 m &&& BitVec.ofInt 64 (6148914691236517205 : Int))) : Int))) ((2 : Int) ^ min (Int.toNat (2 : Int)) 64)) &&& BitVec.ofInt 64 (3689348814741910323 : Int))) : Int) + IntKind.wrap IntKind.u64 (↑(BitVec.toNat (BitVec.ofInt 64 (IntKind.wrap IntKind.u64 (IntKind.wrap IntKind.u64 (↑(BitVec.toNat (BitVec.ofInt 64 (Int.fdiv m ((2 : Int) ^ min (Int.toNat (1 : Int)) 64)) &&& BitVec.ofInt 64 (6148914691236517205 : Int))) : Int) + IntKind.wrap IntKind.u64 (↑(BitVec.toNat (BitVec.ofInt 64 m &&& BitVec.ofInt 64 (6148914691236517205 : Int))) : Int))) &&& BitVec.ofInt 64 (3689348814741910323 : Int))) : Int)))) &&& BitVec.ofInt 64 (1085102592571150095 : Int))) : Int) + Int.fdiv (IntKind.wrap IntKind.u64 (↑(BitVec.toNat (BitVec.ofInt 64 (IntKind.wrap IntKind.u64 (Int.fdiv (IntKind.wrap IntKind.u64 (IntKind.wrap IntKind.u64 (↑(BitVec.toNat (BitVec.ofInt 64 (Int.fdiv (IntKind.wrap IntKind.u64 (IntKind.wrap IntKind.u64 (↑(BitVec.toNat (BitVec.ofInt 64 (Int.fdiv m ((2 : Int) ^ min (Int.toNat (1 : Int)) 64)) &&& BitVec.ofInt 64 (6148914691236517205 : Int))) : Int) + IntKind.wrap IntKind.u64 (↑(BitVec.toNat (BitVec.ofInt 64 m &&& BitVec.ofInt 64 (6148914691236517205 : Int))) : Int))) ((2 : Int) ^ min (Int.toNat (2 : Int)) 64)) &&& BitVec.ofInt 64 (3689348814741910323 : Int))) : Int) + IntKind.wrap IntKind.u64 (↑(BitVec.toNat (BitVec.ofInt 64 (IntKind.wrap IntKind.u64 (IntKind.wrap IntKind.u64 (↑(BitVec.toNat (BitVec.ofInt 64 (Int.fdiv m ((2 : Int) ^ min (Int.toNat (1 : Int)) 64)) &&& BitVec.ofInt 64 (6148914691236517205 : Int))) : Int) + IntKind.wrap IntKind.u64 (↑(BitVec.toNat (BitVec.ofInt 64 m &&& BitVec.ofInt 64 (6148914691236517205 : Int))) : Int))) &&& BitVec.ofInt 64 (3689348814741910323 : Int))) : Int))) ((2 : Int) ^ min (Int.toNat (4 : Int)) 64) + IntKind.wrap IntKind.u64 (IntKind.wrap IntKind.u64 (↑(BitVec.toNat (BitVec.ofInt 64 (Int.fdiv (IntKind.wrap IntKind.u64 (IntKind.wrap IntKind.u64 (↑(BitVec.toNat (BitVec.ofInt 64 (Int.fdiv m ((2 : Int) ^ min (Int.toNat (1 : Int)) 64)) &&& BitVec.ofInt 64 (6148914691236517205 : Int))) : Int) + IntKind.wrap IntKind.u64 (↑(BitVec.toNat (BitVec.ofInt 64 m &&& BitVec.ofInt 64 (6148914691236517205 : Int))) : Int))) ((2 : Int) ^ min (Int.toNat (2 : Int)) 64)) &&& BitVec.ofInt 64 (3689348814741910323 : Int))) : Int) + IntKind.wrap IntKind.u64 (↑(BitVec.toNat (BitVec.ofInt 64 (IntKind.wrap IntKind.u64 (IntKind.wrap IntKind.u64 (↑(BitVec.toNat (BitVec.ofInt 64 (Int.fdiv m ((2 : Int) ^ min (Int.toNat (1 : Int)) 64)) &&& BitVec.ofInt 64 (6148914691236517205 : Int))) : Int) + IntKind.wrap IntKind.u64 (↑(BitVec.toNat (BitVec.ofInt 64 m &&& BitVec.ofInt 64 (6148914691236517205 : Int))) : Int))) &&& BitVec.ofInt 64 (3689348814741910323 : Int))) : Int)))) &&& BitVec.ofInt 64 (1085102592571150095 : Int))) : Int)) ((2 : Int) ^ min (Int.toNat (8 : Int)) 64))) ((2 : Int) ^ min (Int.toNat (16 : Int)) 64)) + Int.fdiv (IntKind.wrap IntKind.u64 (IntKind.wrap IntKind.u64 (IntKind.wrap IntKind.u64 (↑(BitVec.toNat (BitVec.ofInt 64 (IntKind.wrap IntKind.u64 (Int.fdiv (IntKind.wrap IntKind.u64 (IntKind.wrap IntKind.u64 (↑(BitVec.toNat (BitVec.ofInt 64 (Int.fdiv (IntKind.wrap IntKind.u64 (IntKind.wrap IntKind.u64 (↑(BitVec.toNat (BitVec.ofInt 64 (Int.fdiv m ((2 : Int) ^ min (Int.toNat (1 : Int)) 64)) &&& BitVec.ofInt 64 (6148914691236517205 : Int))) : Int) + IntKind.wrap IntKind.u64 (↑(BitVec.toNat (BitVec.ofInt 64 m &&& BitVec.ofInt 64 (6148914691236517205 : Int))) : Int))) ((2 : Int) ^ min (Int.toNat (2 : Int)) 64)) &&& BitVec.ofInt 64 (3689348814741910323 : Int))) : Int) + IntKind.wrap IntKind.u64 (↑(BitVec.toNat (BitVec.ofInt 64 (IntKind.wrap IntKind.u64 (IntKind.wrap IntKind.u64 (↑(BitVec.toNat (BitVec.ofInt 64 (Int.fdiv m ((2 : Int) ^ min (Int.toNat (1 : Int)) 64)) &&& BitVec.ofInt 64 (6148914691236517205 : Int))) : Int) + IntKind.wrap IntKind.u64 (↑(BitVec.toNat (BitVec.ofInt 64 m &&& BitVec.ofInt 64 (6148914691236517205 : Int))) : Int))) &&& BitVec.ofInt 64 (3689348814741910323 : Int))) : Int))) ((2 : Int) ^ min (Int.toNat (4 : Int)) 64) + IntKind.wrap IntKind.u64 (IntKind.wrap IntKind.u64 (↑(BitVec.toNat (BitVec.ofInt 64 (Int.fdiv (IntKind.wrap IntKind.u64 (IntKind.wrap IntKind.u64 (↑(BitVec.toNat (BitVec.ofInt 64 (Int.fdiv m ((2 : Int) ^ min (Int.toNat (1 : Int)) 64)) &&& BitVec.ofInt 64 (6148914691236517205 : Int))) : Int) + IntKind.wrap IntKind.u64 (↑(BitVec.toNat (BitVec.ofInt 64 m &&& BitVec.ofInt 64 (6148914691236517205 : Int))) : Int))) ((2 : Int) ^ min (Int.toNat (2 : Int)) 64)) &&& BitVec.ofInt 64 (3689348814741910323 : Int))) : Int) + IntKind.wrap IntKind.u64 (↑(BitVec.toNat (BitVec.ofInt 64 (IntKind.wrap IntKind.u64 (IntKind.wrap IntKind.u64 (↑(BitVec.toNat (BitVec.ofInt 64 (Int.fdiv m ((2 : Int) ^ min (Int.toNat (1 : Int)) 64)) &&& BitVec.ofInt 64 (6148914691236517205 : Int))) : Int) + IntKind.wrap IntKind.u64 (↑(BitVec.toNat (BitVec.ofInt 64 m &&& BitVec.ofInt 64 (6148914691236517205 : Int))) : Int))) &&& BitVec.ofInt 64 (3689348814741910323 : Int))) : Int)))) &&& BitVec.ofInt 64 (1085102592571150095 : Int))) : Int) + Int.fdiv (IntKind.wrap IntKind.u64 (↑(BitVec.toNat (BitVec.ofInt 64 (IntKind.wrap IntKind.u64 (Int.fdiv (IntKind.wrap IntKind.u64 (IntKind.wrap IntKind.u64 (↑(BitVec.toNat (BitVec.ofInt 64 (Int.fdiv (IntKind.wrap IntKind.u64 (IntKind.wrap IntKind.u64 (↑(BitVec.toNat (BitVec.ofInt 64 (Int.fdiv m ((2 : Int) ^ min (Int.toNat (1 : Int)) 64)) &&& BitVec.ofInt 64 (6148914691236517205 : Int))) : Int) + IntKind.wrap IntKind.u64 (↑(BitVec.toNat (BitVec.ofInt 64 m &&& BitVec.ofInt 64 (6148914691236517205 : Int))) : Int))) ((2 : Int) ^ min (Int.toNat (2 : Int)) 64)) &&& BitVec.ofInt 64 (3689348814741910323 : Int))) : Int) + IntKind.wrap IntKind.u64 (↑(BitVec.toNat (BitVec.ofInt 64 (IntKind.wrap IntKind.u64 (IntKind.wrap IntKind.u64 (↑(BitVec.toNat (BitVec.ofInt 64 (Int.fdiv m ((2 : Int) ^ min (Int.toNat (1 : Int)) 64)) &&& BitVec.ofInt 64 (6148914691236517205 : Int))) : Int) + IntKind.wrap IntKind.u64 (↑(BitVec.toNat (BitVec.ofInt 64 m &&& BitVec.ofInt 64 (6148914691236517205 : Int))) : Int))) &&& BitVec.ofInt 64 (3689348814741910323 : Int))) : Int))) ((2 : Int) ^ min (Int.toNat (4 : Int)) 64) + IntKind.wrap IntKind.u64 (IntKind.wrap IntKind.u64 (↑(BitVec.toNat (BitVec.ofInt 64 (Int.fdiv (IntKind.wrap IntKind.u64 (IntKind.wrap IntKind.u64 (↑(BitVec.toNat (BitVec.ofInt 64 (Int.fdiv m ((2 : Int) ^ min (Int.toNat (1 : Int)) 64)) &&& BitVec.ofInt 64 (6148914691236517205 : Int))) : Int) + IntKind.wrap IntKind.u64 (↑(BitVec.toNat (BitVec.ofInt 64 m &&& BitVec.ofInt 64 (6148914691236517205 : Int))) : Int))) ((2 : Int) ^ min (Int.toNat (2 : Int)) 64)) &&& BitVec.ofInt 64 (3689348814741910323 : Int))) : Int) + IntKind.wrap IntKind.u64 (↑(BitVec.toNat (BitVec.ofInt 64 (IntKind.wrap IntKind.u64 (IntKind.wrap IntKind.u64 (↑(BitVec.toNat (BitVec.ofInt 64 (Int.fdiv m ((2 : Int) ^ min (Int.toNat (1 : Int)) 64)) &&& BitVec.ofInt 64 (6148914691236517205 : Int))) : Int) + IntKind.wrap IntKind.u64 (↑(BitVec.toNat (BitVec.ofInt 64 m &&& BitVec.ofInt 64 (6148914691236517205 : Int))) : Int))) &&& BitVec.ofInt 64 (3689348814741910323 : Int))) : Int)))) &&& BitVec.ofInt 64 (1085102592571150095 : Int))) : Int)) ((2 : Int) ^ min (Int.toNat (8 : Int)) 64)) + Int.fdiv (IntKind.wrap IntKind.u64 (IntKind.wrap IntKind.u64 (↑(BitVec.toNat (BitVec.ofInt 64 (IntKind.wrap IntKind.u64 (Int.fdiv (IntKind.wrap IntKind.u64 (IntKind.wrap IntKind.u64 (↑(BitVec.toNat (BitVec.ofInt 64 (Int.fdiv (IntKind.wrap IntKind.u64 (IntKind.wrap IntKind.u64 (↑(BitVec.toNat (BitVec.ofInt 64 (Int.fdiv m ((2 : Int) ^ min (Int.toNat (1 : Int)) 64)) &&& BitVec.ofInt 64 (6148914691236517205 : Int))) : Int) + IntKind.wrap IntKind.u64 (↑(BitVec.toNat (BitVec.ofInt 64 m &&& BitVec.ofInt 64 (6148914691236517205 : Int))) : Int))) ((2 : Int) ^ min (Int.toNat (2 : Int)) 64)) &&& BitVec.ofInt 64 (3689348814741910323 : Int))) : Int) + IntKind.wrap IntKind.u64 (↑(BitVec.toNat (BitVec.ofInt 64 (IntKind.wrap IntKind.u64 (IntKind.wrap IntKind.u64 (↑(BitVec.toNat (BitVec.ofInt 64 (Int.fdiv m ((2 : Int) ^ min (Int.toNat (1 : Int)) 64)) &&& BitVec.ofInt 64 (6148914691236517205 : Int))) : Int) + IntKind.wrap IntKind.u64 (↑(BitVec.toNat (BitVec.ofInt 64 m &&& BitVec.ofInt 64 (6148914691236517205 : Int))) : Int))) &&& BitVec.ofInt 64 (3689348814741910323 : Int))) : Int))) ((2 : Int) ^ min (Int.toNat (4 : Int)) 64) + IntKind.wrap IntKind.u64 (IntKind.wrap IntKind.u64 (↑(BitVec.toNat (BitVec.ofInt 64 (Int.fdiv (IntKind.wrap IntKind.u64 (IntKind.wrap IntKind.u64 (↑(BitVec.toNat (BitVec.ofInt 64 (Int.fdiv m ((2 : Int) ^ min (Int.toNat (1 : Int)) 64)) &&& BitVec.ofInt 64 (6148914691236517205 : Int))) : Int) + IntKind.wrap IntKind.u64 (↑(BitVec.toNat (BitVec.ofInt 64 m &&& BitVec.ofInt 64 (6148914691236517205 : Int))) : Int))) ((2 : Int) ^ min (Int.toNat (2 : Int)) 64)) &&& BitVec.ofInt 64 (3689348814741910323 : Int))) : Int) + IntKind.wrap IntKind.u64 (↑(BitVec.toNat (BitVec.ofInt 64 (IntKind.wrap IntKind.u64 (IntKind.wrap IntKind.u64 (↑(BitVec.toNat (BitVec.ofInt 64 (Int.fdiv m ((2 : Int) ^ min (Int.toNat (1 : Int)) 64)) &&& BitVec.ofInt 64 (6148914691236517205 : Int))) : Int) + IntKind.wrap IntKind.u64 (↑(BitVec.toNat (BitVec.ofInt 64 m &&& BitVec.ofInt 64 (6148914691236517205 : Int))) : Int))) &&& BitVec.ofInt 64 (3689348814741910323 : Int))) : Int)))) &&& BitVec.ofInt 64 (1085102592571150095 : Int))) : Int) + Int.fdiv (IntKind.wrap IntKind.u64 (↑(BitVec.toNat (BitVec.ofInt 64 (IntKind.wrap IntKind.u64 (Int.fdiv (IntKind.wrap IntKind.u64 (IntKind.wrap IntKind.u64 (↑(BitVec.toNat (BitVec.ofInt 64 (Int.fdiv (IntKind.wrap IntKind.u64 (IntKind.wrap IntKind.u64 (↑(BitVec.toNat (BitVec.ofInt 64 (Int.fdiv m ((2 : Int) ^ min (Int.toNat (1 : Int)) 64)) &&& BitVec.ofInt 64 (6148914691236517205 : Int))) : Int) + IntKind.wrap IntKind.u64 (↑(BitVec.toNat (BitVec.ofInt 64 m &&& BitVec.ofInt 64 (6148914691236517205 : Int))) : Int))) ((2 : Int) ^ min (Int.toNat (2 : Int)) 64)) &&& BitVec.ofInt 64 (3689348814741910323 : Int))) : Int) + IntKind.wrap IntKind.u64 (↑(BitVec.toNat (BitVec.ofInt 64 (IntKind.wrap IntKind.u64 (IntKind.wrap IntKind.u64 (↑(BitVec.toNat (BitVec.ofInt 64 (Int.fdiv m ((2 : Int) ^ min (Int.toNat (1 : Int)) 64)) &&& BitVec.ofInt 64 (6148914691236517205 : Int))) : Int) + IntKind.wrap IntKind.u64 (↑(BitVec.toNat (BitVec.ofInt 64 m &&& BitVec.ofInt 64 (6148914691236517205 : Int))) : Int))) &&& BitVec.ofInt 64 (3689348814741910323 : Int))) : Int))) ((2 : Int) ^ min (Int.toNat (4 : Int)) 64) + IntKind.wrap IntKind.u64 (IntKind.wrap IntKind.u64 (↑(BitVec.toNat (BitVec.ofInt 64 (Int.fdiv (IntKind.wrap IntKind.u64 (IntKind.wrap IntKind.u64 (↑(BitVec.toNat (BitVec.ofInt 64 (Int.fdiv m ((2 : Int) ^ min (Int.toNat (1 : Int)) 64)) &&& BitVec.ofInt 64 (6148914691236517205 : Int))) : Int) + IntKind.wrap IntKind.u64 (↑(BitVec.toNat (BitVec.ofInt 64 m &&& BitVec.ofInt 64 (6148914691236517205 : Int))) : Int))) ((2 : Int) ^ min (Int.toNat (2 : Int)) 64)) &&& BitVec.ofInt 64 (3689348814741910323 : Int))) : Int) + IntKind.wrap IntKind.u64 (↑(BitVec.toNat (BitVec.ofInt 64 (IntKind.wrap IntKind.u64 (IntKind.wrap IntKind.u64 (↑(BitVec.toNat (BitVec.ofInt 64 (Int.fdiv m ((2 : Int) ^ min (Int.toNat (1 : Int)) 64)) &&& BitVec.ofInt 64 (6148914691236517205 : Int))) : Int) + IntKind.wrap IntKind.u64 (↑(BitVec.toNat (BitVec.ofInt 64 m &&& BitVec.ofInt 64 (6148914691236517205 : Int))) : Int))) &&& BitVec.ofInt 64 (3689348814741910323 : Int))) : Int)))) &&& BitVec.ofInt 64 (1085102592571150095 : Int))) : Int)) ((2 : Int) ^ min (Int.toNat (8 : Int)) 64))) ((2 : Int) ^ min (Int.toNat (16 : Int)) 64))) ((2 : Int) ^ min (Int.toNat (32 : Int)) 64)))) &&& BitVec.ofInt 64 (127 : Int))) : Int))) [] fun x => none) (by kernel_rfl) ?_
  refine hQ _ ?_
  obtain ⟨k, rfl⟩ := hm.fin
  refine congrArg (fun b => T.v (Value.int .i64 b)) ?_
  clear hm hQ
  revert k
  decide +kernel
theorem ones_any {m : Int} (hm : Mask m) (Q : T → Obs → Glb → Prop) (hQ : ∀ r, r = int (cntM m) → Q r [] none_) : TCalls Tryz.prog 146 [u64 m] [] none_ Q := by
  refine TCalls.of Tryz.func146 rfl (CanCall.of Tryz.func146 rfl (by decide)) [] fun Γ => ?_
  refine run_sound (⟨fun | 2, 1 => told (int (cntM m)) [] [] | _, _ => .no, [], fun  | _ => none⟩) 400 (B := TCalls Tryz.prog 162 [u64 m] [] (fun x => none) (callPost (Hint.call false Unit (fun x => True) [] false (fun x => int (cntM m)) (fun x => []) fun x => none_)) ∧ ∀ (a : Unit), True → Q (int (cntM m)) [] fun x => none) (by kernel_rfl) ?_
  repeat' (first | exact rfl | exact Nat.le_of_ble_eq_true rfl | refine And.intro ?_ ?_ | intro _ | refine bsplit_mk (fun _ => ?_) (fun _ => ?_))
  · exact ones64_any hm _ fun r h => told_post h
  · exact hQ _ rfl
def isMas (ms i : Int) : Bool := decide (1 ≤ i ∧ i ≤ ms)
theorem master_any (b : Nat) (x : P0) (bm sl : T) (i : Int) (hi : 0 ≤ i ∧ i < 256) (Q : T → Obs → Glb → Prop) (hQ : ∀ r, r = bool (isMas x.ms i) → Q r [(b, .cells (pC x bm sl))] none_) : TCalls Tryz.prog 112 [.ptr 0 b 0, u8 i] [(b, .cells (pC x bm sl))] none_ Q := by
  refine TCalls.of Tryz.func112 rfl (CanCall.of Tryz.func112 rfl (by decide)) [0] fun Γ => ?_
  refine run_sound (⟨fun _ _ => .no, [], fun _ => none⟩) 400 (B := bsplit (decide (i ≥ (1 : Int))) (b = b ∧ Q (bool (decide (IntKind.wrap IntKind.i64 i ≤ P0.ms x))) [(b, Ob.cells [int (P0.ms x), int (P0.ph x), u32 (P0.n x), u8 (P0.b x), u32 (P0.fr x), u32 (P0.nx x), u64 (P0.pm x), bm, sl])] fun x => none) (Q (bool false) [(b, Ob.cells [int (P0.ms x), int (P0.ph x), u32 (P0.n x), u8 (P0.b x), u32 (P0.fr x), u32 (P0.nx x), u64 (P0.pm x), bm, sl])] fun x => none)) (by kernel_rfl) ?_
  rw [wrap_i64 (by omega) (by omega)]
  repeat' (first | exact rfl | exact Nat.le_of_ble_eq_true rfl | refine And.intro ?_ ?_ | intro _ | refine bsplit_mk (fun _ => ?_) (fun _ => ?_))
  · refine hQ _ (congrArg (fun b => T.v (Value.bool b)) ?_)
    simp at *
    simp [isMas, *]
  · refine hQ _ (congrArg (fun b => T.v (Value.bool b)) ?_)
    simp at *
    simp [isMas]
    omega
theorem new_any (ms : Int) (h : 1 ≤ ms ∧ ms ≤ 5) (Q : T → Obs → Glb → Prop) (hQ : ∀ b, Q (.tup [.ptr 0 b 0, .v (.int .i64 0)]) [(b, .cells (pC ⟨ms, 0, 0, 0, 0, 0, 0⟩ nilM nilL))] none_) : TCalls Tryz.prog 40 [int ms] [] none_ Q := by
  refine TCalls.of Tryz.func40 rfl (CanCall.of Tryz.func40 rfl (by decide)) [0] fun Γ => ?_
  refine run_sound (⟨fun _ _ => .no, [], fun _ => none⟩) 400 (B := bsplit (decide (ms < (1 : Int))) False (bsplit (decide (ms > (5 : Int))) False (∀ (b : Nat), Q (T.tup [T.ptr 0 b 0, int (0 : Int)]) [(b, Ob.cells [int ms, int (0 : Int), u32 (0 : Int), u8 (0 : Int), u32 (0 : Int), u32 (0 : Int), u64 (0 : Int), T.v (Value.map none), T.v (Value.slice none 0 0)])] fun x => none))) (by kernel_rfl) ?_
  refine bsplit_mk (fun h1 => ?_) (fun _ => bsplit_mk (fun h1 => ?_) (fun _ b => hQ b))
  · simp at h1; omega
  · simp at h1; omega
theorem byAcc_any (g b : Nat) (x : Ent) (m z : Int) (gl : Glb) (hg : gl g = some (.cells (prC x m))) (Q : T → Obs → Glb → Prop) (hQ : ∀ r, r = bool (x.s == z) → Q r [(b, .cells [u32 z])] gl) : TCalls Tryz.prog 116 [.gp g 0, .ptr 0 b 0] [(b, .cells [u32 z])] gl Q := by
  refine TCalls.of Tryz.func116 rfl (CanCall.of Tryz.func116 rfl (by decide)) [0] fun Γ => ?_
  refine run_sound (⟨fun | 1, 4 => .gl (prC x m) | _, _ => .no, [], fun  | _ => none⟩) 400 (B := gl g = some (Ob.cells (prC x m)) ∧ b = b ∧ Q (T.v (Value.bool (Ent.s x == z))) [(b, Ob.cells [T.v (Value.int IntKind.u32 z)])] gl) (by kernel_rfl) ?_
  repeat' (first | exact rfl | exact Nat.le_of_ble_eq_true rfl | refine And.intro ?_ ?_ | intro _ | refine bsplit_mk (fun _ => ?_) (fun _ => ?_))
  · exact hg
  · exact hQ _ rfl
theorem byLearn_any (g b : Nat) (x : Ent) (m z : Int) (gl : Glb) (hg : gl g = some (.cells (prC x m))) (Q : T → Obs → Glb → Prop) (hQ : ∀ r, r = bool (decide (x.s < z)) → Q r [(b, .cells [u32 z])] gl) : TCalls Tryz.prog 129 [.gp g 0, .ptr 0 b 0] [(b, .cells [u32 z])] gl Q := by
  refine TCalls.of Tryz.func129 rfl (CanCall.of Tryz.func129 rfl (by decide)) [0] fun Γ => ?_
  refine run_sound (⟨fun | 1, 4 => .gl (prC x m) | _, _ => .no, [], fun  | _ => none⟩) 400 (B := gl g = some (Ob.cells (prC x m)) ∧ b = b ∧ Q (T.v (Value.bool (decide (Ent.s x < z)))) [(b, Ob.cells [T.v (Value.int IntKind.u32 z)])] gl) (by kernel_rfl) ?_
  repeat' (first | exact rfl | exact Nat.le_of_ble_eq_true rfl | refine And.intro ?_ ?_ | intro _ | refine bsplit_mk (fun _ => ?_) (fun _ => ?_))
  · exact hg
  · exact hQ _ rfl
end X12
end Go.Proofs.YtpjkdcbogjigeaaGreat.Vm
