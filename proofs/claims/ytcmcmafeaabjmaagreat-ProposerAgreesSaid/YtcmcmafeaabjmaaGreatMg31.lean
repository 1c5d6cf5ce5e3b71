/- Texts of this claim: AcG, AcK, VmG, VmF. -/
import Derived.Test.YtcmcmafeaabjmaaGreatMg15
import Derived.Test.YtcmcmafeaabjmaaGreatMg30
import Derived.Test.YtcmcmafeaabjmaaGreatMg29
import Derived.Test.YtcmcmafeaabjmaaGreatMg13
namespace Go.Proofs.YtcmcmafeaabjmaaGreat.Vm
open Go Go.RowKit
set_option maxRecDepth 100000
noncomputable abbrev kAcG0 (l : List Nat) : It := .code (sub (bd Tryz.f33) l)
noncomputable abbrev wAcG1 (Γ : Ctx) (Q : T → Obs → Glb → Prop) : List It → S → Prop := TWk Tryz.prog Γ (fin Tryz.prog Tryz.f33 [0, 1, 2, 3, 4] Q)
namespace X11
open Acp (En AS Rc blw VOk IsE XOk Inv)
open View (VS Mem)
open X5 (viewC mems memC)
open Jrn (Dk)
open X9 (dkC)
open X10 (strs jC)
theorem enC_ix (y : En) : (enC y).all noIx = true := rfl
theorem flat_ix : ∀ l : List En, (Row.flat enC l).all noIx = true
  | [] => rfl
  | x :: l => by rw [Row.flat_cons, List.all_append, enC_ix x, flat_ix l]; rfl
theorem und_ix (n : Nat) : (List.replicate n T.und).all noIx = true := by
  induction n with
  | zero => rfl
  | succ n ih => rw [List.replicate_succ, List.all_cons, ih]; rfl
theorem enF_of {E : Nat → Option En} (hE : ∀ k y, E k = some y → y.slot = k) {y : Int} {t : T} (h : enF E y = some t) : ∃ c : En, y = (c.slot : Int) ∧ E c.slot = some c ∧ t = .agg (enC c) := by
  unfold enF at h
  split at h
  · rename_i hy
    cases hc : E y.toNat with
    | none => rw [hc] at h; cases h
    | some c =>
      rw [hc] at h
      injection h with h
      have := hE _ _ hc
      exact ⟨c, by omega, by rw [this]; exact hc, h.symm⟩
  · cases h
theorem enF_at {E : Nat → Option En} {c : En} (h : E c.slot = some c) : enF E (c.slot : Int) = some (.agg (enC c)) := by
  unfold enF
  rw [if_pos (by omega), Int.toNat_natCast, h]; rfl
theorem snoc_row (l : List En) (c : En) (R : List T) : setCells (Row.flat enC l ++ R) (0 + l.length * 8) (enC c) = Row.flat enC (l ++ [c]) ++ R.drop 8 := by
  have hl : (Row.flat enC l).length = l.length * 8 := Row.flat_len enC_len l
  unfold setCells
  rw [Nat.zero_add, ← hl, List.take_left, Row.flat_app, enC_len, List.drop_append, List.drop_of_length_le (by omega)]
  simp [Row.flat]
section
variable (db jb ab mb : Nat) (d : Dk) (l : List (List UInt8)) (hd : Value) (dead : Bool) (x : AS) (es : Array MapEntry) (ck : Nat) (Γ : Ctx) (frm ib : Nat) (Q : T → Obs → Glb → Prop)
theorem en_doneS (L : List En) (hL : IsE x.E frm L) (hl16 : L.length ≤ 16) (hQ : Q (.sl 8 (Row.aggs enC L)) (obsA db jb ab mb d l hd dead x es ck) none_) (e : List En) (R : List T) (hx : R.all noIx = true) (g cap : Nat) (cur : Option Int) (left : List Int) (h0 : left = []) (h : Inv x.E frm e left) :
    wAcG1 Γ Q [kAcG0 [1,1,1,0,1,0], .blk 0, kAcG0 [1,1,1,1]] ⟨frame 31 [(1, u32 frm), (5, .sa 6 g 0 e.length cap), (15, .ptr 5 ib 0)], obsA db jb ab mb d l hd dead x es ck ++ [(ib, .iter 4 mb .u32 es ck left cur), (g, .cells (Row.flat enC e ++ R))], none_⟩ := by
  subst h0
  have hs := h.sub hL
  obtain ⟨e', hp⟩ : ∃ e' : List En, e' = L := ⟨L, rfl⟩
  have hu : ∀ l' : List En, l'.Perm e → l'.Pairwise (fun a b => a.slot ≤ b.slot) → l' = L := fun l' h1 h2 => (h.end_ h1 h2).uniq hL
  have hn : e.length = L.length := by
    refine Nat.le_antisymm hs (Acp.len_sub (by have := hL.s; unfold Acp.Srt at this; exact this.imp fun hlt e => by subst e; omega) fun y hy => ?_)
    have := (hL.m y).1 hy
    exact (h.c y this.1 this.2).resolve_right (by simp)
  refine en_endS db jb ab mb d l hd dead x es ck Γ frm ib Q g e.length cap _ [] cur rfl (Row.flat enC L ++ R) (by rw [List.all_append, flat_ix, hx]; rfl) (by rw [List.all_append, flat_ix, hx]; rfl)
    (fun Q' hq => sort_any g e.length cap e R rfl (by omega) Q' fun l' h1 h2 => by rw [hu l' h1 h2]; exact hq) ?_
  exact TWk.impM (en_ret db jb ab mb d l hd dead x es ck Γ ib Q (Row.aggs enC L) [] cur hQ) (ImpM.slot (i := 6) (b := g) true 8 5 (Row.aggs enC L) rfl rfl (fun h => by cases h) (Row.fz_len enC_len rfl hn) (Row.fz_one enC_len enC_one rfl hn) (Row.fz_es enC_len rfl hn))
theorem en_loopS (hE : ∀ k y, x.E k = some y → y.slot = k) (L : List En) (hL : IsE x.E frm L) (hl16 : L.length ≤ 16) (hQ : Q (.sl 8 (Row.aggs enC L)) (obsA db jb ab mb d l hd dead x es ck) none_) : ∀ (n : Nat) (left : List Int) (e : List En) (R : List T) (g cap : Nat) (cur : Option Int), left.length = n → R.all noIx = true → e.length * 8 + R.length = cap * 8 → Inv x.E frm e left →
    wAcG1 Γ Q [kAcG0 [1,1,1,0,1,0], .blk 0, kAcG0 [1,1,1,1]] ⟨frame 31 [(1, u32 frm), (5, .sa 6 g 0 e.length cap), (15, .ptr 5 ib 0)], obsA db jb ab mb d l hd dead x es ck ++ [(ib, .iter 4 mb .u32 es ck left cur), (g, .cells (Row.flat enC e ++ R))], none_⟩ := by
  intro n
  induction n with
  | zero =>
    intro left e R g cap cur hn hx hR h
    exact en_doneS db jb ab mb d l hd dead x es ck Γ frm ib Q L hL hl16 hQ e R hx g cap cur left (List.eq_nil_of_length_eq_zero hn) h
  | succ n ih =>
    intro left e R g cap cur hn hx hR h
    have hs := h.sub hL
    refine en_nextS db jb ab mb d l hd dead x es ck Γ frm ib Q g e.length cap _ left cur (fun e => by subst e; simp at hn) fun y t hy ht => ?_
    obtain ⟨c, rfl, hc, rfl⟩ := enF_of hE ht
    have hlen : (left.erase (c.slot : Int)).length = n := by rw [List.length_erase_of_mem hy]; omega
    have hfl : (Row.flat enC e).length = e.length * 8 := Row.flat_len enC_len e
    have hl1 : (e ++ [c]).length = e.length + 1 := by simp
    refine en_bodyS db jb ab mb d l hd dead x es ck Γ frm ib Q g e.length cap _ _ _ _ _ c (enF_at hc) (by omega) (fun hcap => by rw [List.length_append]; omega) (snoc_row e c R) (by rw [List.length_append]; omega) (by rw [Row.takes enC_len]; exact Row.one enC_one e) rfl (fun hf hcap => ?_) (fun hf g2 cap2 hcap => ?_) (fun hf => ?_)
    · have := ih (left.erase (c.slot : Int)) (e ++ [c]) (R.drop 8) g cap (some (c.slot : Int)) hlen (by
        rw [List.all_eq_true] at hx ⊢
        exact fun z hz => hx z (List.mem_of_mem_drop hz)) (by rw [hl1, List.length_drop]; omega) (h.put c hc hy (by omega))
      rw [hl1] at this
      exact this
    · have := ih (left.erase (c.slot : Int)) (e ++ [c]) (List.replicate ((cap2 - (e.length + 1)) * 8) .und) g2 cap2 (some (c.slot : Int)) hlen (und_ix _) (by rw [hl1, List.length_replicate]; omega) (h.put c hc hy (by omega))
      rw [hl1] at this
      rw [Row.takes enC_len]
      rw [Row.flat_app] at this
      have e1 : Row.flat enC [c] = enC c := by simp [Row.flat]
      rw [e1] at this
      exact this
    · exact ih (left.erase (c.slot : Int)) e R g cap (some (c.slot : Int)) hlen hx hR (h.skip c (by omega))
theorem en_loopN (hE : ∀ k y, x.E k = some y → y.slot = k) (L : List En) (hL : IsE x.E frm L) (hl16 : L.length ≤ 16) (hQ : Q (.sl 8 (Row.aggs enC L)) (obsA db jb ab mb d l hd dead x es ck) none_) (hN : L = [] → Q (.v nilS) (obsA db jb ab mb d l hd dead x es ck) none_) : ∀ (n : Nat) (left : List Int) (cur : Option Int), left.length = n → Inv x.E frm [] left →
    wAcG1 Γ Q [kAcG0 [1,1,1,0,1,0], .blk 0, kAcG0 [1,1,1,1]] ⟨frame 31 [(1, u32 frm), (5, .v nilS), (15, .ptr 5 ib 0)], obsA db jb ab mb d l hd dead x es ck ++ [(ib, .iter 4 mb .u32 es ck left cur)], none_⟩ := by
  intro n
  induction n with
  | zero =>
    intro left cur hn h
    have h0 : left = [] := List.eq_nil_of_length_eq_zero hn
    subst h0
    refine en_endN db jb ab mb d l hd dead x es ck Γ frm ib Q [] cur rfl (fun Q' hq => sort_nil Q' hq) (hN ?_)
    cases L with
    | nil => rfl
    | cons y L =>
      have := (hL.m y).1 (List.mem_cons_self ..)
      exact absurd (h.c y this.1 this.2) (by simp)
  | succ n ih =>
    intro left cur hn h
    refine en_nextN db jb ab mb d l hd dead x es ck Γ frm ib Q left cur (fun e => by subst e; simp at hn) fun y t hy ht => ?_
    obtain ⟨c, rfl, hc, rfl⟩ := enF_of hE ht
    have hlen : (left.erase (c.slot : Int)).length = n := by rw [List.length_erase_of_mem hy]; omega
    refine en_bodyN db jb ab mb d l hd dead x es ck Γ frm ib Q _ _ c (enF_at hc) (fun hf g cap hcap => ?_) (fun hf => ?_)
    · have := en_loopS db jb ab mb d l hd dead x es ck Γ frm ib Q hE L hL hl16 hQ n (left.erase (c.slot : Int)) [c] (List.replicate ((cap - 1) * 8) .und) g cap (some (c.slot : Int)) hlen (und_ix _) (by rw [List.length_replicate]; show 1 * 8 + _ = _; omega) (h.put c hc hy (by omega))
      have e1 : Row.flat enC [c] = enC c := by simp [Row.flat]
      rw [e1] at this
      exact this
    · exact ih (left.erase (c.slot : Int)) (some (c.slot : Int)) hlen (h.skip c (by omega))
end
section
variable (db jb ab mb : Nat) (d : Dk) (l : List (List UInt8)) (hd : Value) (dead : Bool) (x : AS) (es : Array MapEntry) (ck : Nat)
theorem enF_some {E : Nat → Option En} {y : En} (h : E y.slot = some y) : (enF E (y.slot : Int)).isSome = true := by rw [enF_at h]; rfl
theorem entries_raw (hx : XOk x) (frm : Nat) (L : List En) (hL : IsE x.E frm L) (Q : T → Obs → Glb → Prop) (hQ : Q (.sl 8 (Row.aggs enC L)) (obsA db jb ab mb d l hd dead x es ck) none_) (hN : L = [] → Q (.v nilS) (obsA db jb ab mb d l hd dead x es ck) none_) : TCalls Tryz.prog 33 [.ptr 3 ab 0, u32 frm] (obsA db jb ab mb d l hd dead x es ck) none_ Q := by
  have lp := fun Γ ib left (hnd : left.Nodup) (hm : ∀ y, y ∈ left ↔ (enF x.E y).isSome = true) => en_loopN db jb ab mb d l hd dead x es ck Γ frm ib Q (fun k y h => (hx.E k y h).1) L hL (hx.len hL) hQ hN left.length left none rfl
    ⟨List.nodup_nil, (fun y hy => nomatch hy), (fun y h1 _ => .inr ((hm _).2 (enF_some h1))), hnd⟩
  clear hQ hN
  refine TCalls.of Tryz.func33 rfl (CanCall.of Tryz.func33 rfl (by decide)) [0,1,2,3,4] fun Γ => ?_
  let HH : Nat → Nat → Hint := fun _ _ => .no
  exact run_sound ⟨HH, [((2, 5), ([1,5,15], 6))], fun _ => none⟩ 400 (by kernel_rfl) (Yb ab (Yb mb (fun (Z0 : Nat) => (fun (Z1 : List Int) => (fun (Z2 : List.Nodup Z1) => (fun (Z3 : ∀ (z : Int), z ∈ Z1 ↔ Option.isSome (enF x.E z) = true) => (lp Γ Z0 Z1 Z2 Z3)))))))
theorem entries_any (hx : XOk x) (frm : Nat) (L : List En) (hL : IsE x.E frm L) (Q : T → Obs → Glb → Prop) (hQ : Q (.sl 8 (Row.aggs enC L)) (obsA db jb ab mb d l hd dead x es ck) none_) : TCalls Tryz.prog 33 [.ptr 3 ab 0, u32 frm] (obsA db jb ab mb d l hd dead x es ck) none_ Q :=
  TCalls.post (entries_raw db jb ab mb d l hd dead x es ck hx frm L hL (fun r ob gl => (r = .sl 8 (Row.aggs enC L) ∨ r = .v nilS ∧ L = []) ∧ ob = obsA db jb ab mb d l hd dead x es ck ∧ gl = none_) ⟨.inl rfl, rfl, rfl⟩ fun h => ⟨.inr ⟨rfl, h⟩, rfl, rfl⟩) (by
    rintro r ob gl ⟨h, rfl, rfl⟩
    rcases h with rfl | ⟨rfl, rfl⟩
    · exact ⟨_, _, _, Imp.slotR (j := 0) rfl fun M v h => h, hQ⟩
    · exact ⟨.sl 8 [], _, _, Imp.slotR (ts := [.v nilS]) (j := 0) (t' := .sl 8 []) rfl (fun M v h => by
        simp only [Rel] at h ⊢
        exact ⟨none, 0, h, ⟨Nat.le_refl _, by omega, fun _ => ⟨rfl, rfl⟩, fun a _ h => absurd h (by omega)⟩, by simp [El], fun _ _ _ => by simp only [RelE]⟩), hQ⟩)
end
end X11
end Go.Proofs.YtcmcmafeaabjmaaGreat.Vm
namespace Go.Proofs.YtcmcmafeaabjmaaGreat.Vm
open Go Go.RowKit
namespace X11
open Acp (En AS Rc blw VOk IsE XOk)
open View (VS Mem)
open X5 (viewC mems memC firstM firstL)
open Jrn (Dk)
open X9 (dkC obsK dkH dk_post)
open X10 (strs jC obsJ)
theorem new_post : TCalls Tryz.prog 6 [] [] none_ (callPost nwH) := X9.dnew_any _ fun b => ⟨b, trivial, rfl, rfl, Nat.zero_le _, fun h => by cases h⟩
def opnP (db : Nat) (l : List (List UInt8)) (x : AS) : Hint := .call false (Nat × Nat × Nat × Value × Array MapEntry × Nat) (fun _ => True) [0] false (fun a => .tup [.ptr 3 a.2.1 0, int 0]) (fun a => obsA db a.1 a.2.1 a.2.2.1 (Jrn.jd l) l a.2.2.2.1 false x a.2.2.2.2.1 a.2.2.2.2.2) (fun _ => none_)
def opnH (i : Nat) (l : List (List UInt8)) (x : AS) : Hint := .withB fun B => .call false (Nat × Nat × Nat × Value × Array MapEntry × Nat) (fun _ => True) [i] false (fun a => .tup [.ptr 3 a.2.1 0, int 0]) (fun a => obsA (B.getD i 0) a.1 a.2.1 a.2.2.1 (Jrn.jd l) l a.2.2.2.1 false x a.2.2.2.2.1 a.2.2.2.2.2) (fun _ => none_)
theorem opn_post (db self : Nat) (v : VS) (hg : 1 ≤ self ∧ self ≤ 5) (hv8 : VOk v) (rs : List Rc) (hR : ∀ r ∈ rs, r.Ok) (hn : rs.length ≤ 100000) (l : List (List UInt8)) (hl : l = (Rc.birth self 0 v :: rs).map Rc.b) (hv : Jrn.Vs l) (x : AS) (hx : Acp.run Acp.st0 (Rc.birth self 0 v :: rs) = x) :
    TCalls Tryz.prog 8 [.ptr 0 db 0, u8 self] (obsK db (Jrn.jd l)) none_ (callPost (opnP db l x)) :=
  open_ok db self v hg hv8 rs hR hn l hl hv _ fun jb ab mb hd es ck => ⟨(jb, ab, mb, hd, es, ck), trivial, rfl, by rw [hx], Nat.le_of_ble_eq_true rfl, fun h => by cases h⟩
def v2 : VS := ⟨1, firstM 2, firstL 2⟩
def y9 : En := ⟨0, 1, 2, 9, 1, 0, 9, 4⟩
def x1 : AS := Acp.cut Acp.st0 0 v2
def x2 : AS := Acp.accept x1 y9
def l1 : List (List UInt8) := [(Rc.birth 1 0 v2).b]
def l2 : List (List UInt8) := l1 ++ [(Rc.acc y9).b]
theorem vs_add {l : List (List UInt8)} (h : Jrn.Vs l) {r : Rc} (hr : r.Ok) (h2 : (Jrn.flat l).length + 70 ≤ 1048576) : Jrn.Vs (l ++ [r.b]) ∧ (Jrn.flat (l ++ [r.b])).length ≤ (Jrn.flat l).length + 70 := by
  have hb := (Rc.b_len hr).2
  have e : (Jrn.flat (l ++ [r.b])).length = (Jrn.flat l).length + (r.b.length + 6) := by
    unfold Jrn.flat
    rw [List.flatMap_append, List.length_append]
    simp [Jrn.frL_len]
  refine ⟨⟨fun t ht => ?_, by omega⟩, by omega⟩
  rcases List.mem_append.1 ht with h1 | h1
  · exact h.1 t h1
  · rw [List.mem_singleton.1 h1]; exact Rc.vr hr
theorem vs_one (self : Nat) (hs : self < 256) (v : VS) (hv : VOk v) : Jrn.Vs [(Rc.birth self 0 v).b] ∧ (Jrn.flat [(Rc.birth self 0 v).b]).length ≤ 70 := by
  have := vs_add Jrn.vs_nil (r := .birth self 0 v) ⟨hs, by decide, hv⟩ (by decide)
  exact ⟨this.1, Nat.le_trans this.2 (by decide)⟩
end X11
end Go.Proofs.YtcmcmafeaabjmaaGreat.Vm
namespace Go.Proofs.YtcmcmafeaabjmaaGreat.Vm
open Go Go.RowKit
structure Apart (ob : Obs) (gl : Glb) : Prop where
  apart : ∀ (i j : Nat) (x y : Nat × Ob) (b : Nat), ob[i]? = some x → ob[j]? = some y → obBlk x = some b → obBlk y = some b → i = j
  sep : ∀ (i : Nat) (x : Nat × Ob) (b : Nat), ob[i]? = some x → obBlk x = some b → gl b = none
theorem TCalls.apart {P : Program} {f : FuncId} {ts : List T} {ob : Obs} {gl : Glb} {Q : T → Obs → Glb → Prop} (hc : CanCall P f) (h : Apart ob gl → TCalls P f ts ob gl Q) : TCalls P f ts ob gl Q :=
  ⟨hc, fun M w xs hp hx => (h ⟨hp.apart, hp.sep⟩).calls M w xs hp hx⟩
theorem TWk.apart {P : Program} {Γ : Ctx} {R : S → Prop} {c : Code} {k : List It} {s : S} (h : Apart s.ob s.gl → TWk P Γ R (.code c :: k) s) : TWk P Γ R (.code c :: k) s :=
  ⟨fun M a w hs => (h ⟨hs.hp.apart, hs.hp.sep⟩).out M a w hs⟩
theorem Imp.cellR {ts : List T} {ob : Obs} {gl : Glb} {i b j : Nat} {cs : List T} {t t' : T} (hi : ob[i]? = some (b, .cells cs)) (hj : cs[j]? = some t) (ht : ∀ M v, Rel M t v → Rel M t' v) : Imp ts ob gl ts (ob.set i (b, .cells (cs.set j t'))) gl :=
  Imp.ob hi (fun M w h => by
    obtain ⟨C, t0, h1, h2, h3⟩ := h
    refine ⟨C, t0, h1, ?_, h3⟩
    obtain ⟨y, g1, g2⟩ := h2.get hj
    have h4 := h2.set j (ht M y g2)
    have e : C.toList.set j y = C.toList := by
      obtain ⟨hl, he⟩ := List.getElem?_eq_some_iff.1 g1
      rw [← he, List.set_getElem_self]
    rwa [e] at h4) (fun _ h => h)
theorem ptr_gp {i b o : Nat} (M : Pm) (v : Value) (h : Rel M (.ptr i b o) v) : Rel M (.gp b o) v := h
theorem gp_ptr {i b o : Nat} (M : Pm) (v : Value) (h : Rel M (.gp b o) v) : Rel M (.ptr i b o) v := h
end Go.Proofs.YtcmcmafeaabjmaaGreat.Vm
namespace Go.Proofs.YtcmcmafeaabjmaaGreat.Vm
open Go Go.RowKit
def joinG (g h : Glb) : Glb := fun c => (g c).or (h c)
def Dj (g h : Glb) : Prop := ∀ c, (g c).isSome = true → h c = none
def pkO (xs : Obs) : Glb := fun c => (xs.find? fun x => obBlk x == some c).map Prod.snd
theorem Dj.symm {g h : Glb} (d : Dj g h) : Dj h g := fun c hc => by
  cases e : g c with
  | none => rfl
  | some x => rw [d c (by rw [e]; rfl)] at hc; cases hc
theorem joinG_l {g h : Glb} {c : Nat} {x : Ob} (e : g c = some x) : joinG g h c = some x := by unfold joinG; rw [e]; rfl
theorem joinG_r {g h : Glb} {c : Nat} (e : g c = none) : joinG g h c = h c := by unfold joinG; rw [e]; rfl
theorem joinG_none {g h : Glb} {c : Nat} : joinG g h c = none ↔ g c = none ∧ h c = none := by
  unfold joinG
  cases g c <;> simp
theorem joinG_comm {g h : Glb} (d : Dj g h) : joinG g h = joinG h g := by
  funext c
  unfold joinG
  cases e : g c with
  | none => cases h c <;> rfl
  | some x => rw [d c (by rw [e]; rfl)]; rfl
theorem joinG_assoc (g h k : Glb) : joinG (joinG g h) k = joinG g (joinG h k) := by
  funext c
  unfold joinG
  cases g c <;> rfl
theorem joinG_nil (g : Glb) : joinG g none_ = g := by
  funext c
  show (g c).or none = g c
  cases g c <;> rfl
theorem Dj.join {g h k : Glb} (a : Dj g h) (b : Dj g k) : Dj g (joinG h k) := fun c hc => joinG_none.2 ⟨a c hc, b c hc⟩
theorem Dj.left {g h k : Glb} (a : Dj g (joinG h k)) : Dj g h := fun c hc => (joinG_none.1 (a c hc)).1
theorem Dj.right {g h k : Glb} (a : Dj g (joinG h k)) : Dj g k := fun c hc => (joinG_none.1 (a c hc)).2
theorem Dj.joinl {g h k : Glb} (a : Dj g k) (b : Dj h k) : Dj (joinG g h) k := (Dj.join a.symm b.symm).symm
theorem Dj.none (g : Glb) : Dj g none_ := fun _ _ => rfl
theorem obBlk_at {b c : Nat} {X : Ob} (h : obBlk (b, X) = some c) : obBlk (c, X) = some c := by
  cases X <;> first | exact h | (injection h with h; subst h; rfl) | cases h
theorem ObRel_at {b c : Nat} {X : Ob} {M : Pm} {w : World} (h : obBlk (b, X) = some c) (r : ObRel M w (b, X)) : ObRel M w (c, X) := by
  cases X <;> first | exact r | (injection h with h; subst h; exact r) | cases h
theorem pkO_some {xs : Obs} {c : Nat} {X : Ob} (h : pkO xs c = some X) : ∃ i b : Nat, xs[i]? = some (b, X) ∧ obBlk (b, X) = some c := by
  unfold pkO at h
  rw [Option.map_eq_some_iff] at h
  obtain ⟨⟨b, Y⟩, h1, h2⟩ := h
  have h3 := List.find?_some h1
  obtain ⟨i, hi, h4⟩ := List.getElem_of_mem (List.mem_of_find?_eq_some h1)
  refine ⟨i, b, ?_, ?_⟩
  · rw [List.getElem?_eq_getElem hi, h4]; exact congrArg (fun z => some (b, z)) h2
  · have : obBlk (b, Y) = some c := by simpa using h3
    cases h2; exact this
theorem pkO_none {xs : Obs} {c : Nat} (h : pkO xs c = none) {i : Nat} {x : Nat × Ob} (hi : xs[i]? = some x) : obBlk x ≠ some c := by
  unfold pkO at h
  rw [Option.map_eq_none_iff, List.find?_eq_none] at h
  have := h x (List.mem_of_getElem? hi)
  simpa using this
theorem Imp.park {ts : List T} {ob xs : Obs} {gl : Glb} : Imp ts (ob ++ xs) gl ts ob (joinG (pkO xs) gl) := by
  have hin : ∀ {i : Nat} {x : Nat × Ob}, ob[i]? = some x → (ob ++ xs)[i]? = some x ∧ i < ob.length := fun {i x} h => by
    obtain ⟨hl, _⟩ := List.getElem?_eq_some_iff.1 h
    exact ⟨by rw [List.getElem?_append_left hl]; exact h, hl⟩
  have hin2 : ∀ {i : Nat} {x : Nat × Ob}, xs[i]? = some x → (ob ++ xs)[ob.length + i]? = some x := fun {i x} h => by
    rw [List.getElem?_append_right (Nat.le_add_right _ _), Nat.add_sub_cancel_left]; exact h
  refine ⟨fun _ _ h => h, fun M w h => ⟨h.promise, fun i x hx => h.objs i x (hin hx).1, fun i j x y c hx hy h1 h2 => h.apart i j x y c (hin hx).1 (hin hy).1 h1 h2, fun c x hx => ?_, fun i x c hx h1 => ?_⟩, fun c hc => ?_⟩
  · cases e : pkO xs c with
    | none => rw [joinG_r e] at hx; exact h.glob c x hx
    | some y =>
      rw [joinG_l e] at hx
      injection hx with hx
      subst hx
      obtain ⟨i, b, h1, h2⟩ := pkO_some e
      exact ⟨obBlk_at h2, ObRel_at h2 (h.objs _ _ (hin2 h1))⟩
  · refine joinG_none.2 ⟨?_, h.sep i x c (hin hx).1 h1⟩
    cases e : pkO xs c with
    | none => rfl
    | some y =>
      obtain ⟨k, b, h2, h3⟩ := pkO_some e
      have := h.apart i (ob.length + k) x _ c (hin hx).1 (hin2 h2) h1 h3
      have := (hin hx).2
      omega
  · rcases hc with ⟨i, x, h1, h2⟩ | h1
    · exact .inl ⟨i, x, (hin h1).1, h2⟩
    · cases e : pkO xs c with
      | none => rw [joinG_r e] at h1; exact .inr h1
      | some y =>
        obtain ⟨k, b, h2, h3⟩ := pkO_some e
        exact .inl ⟨_, _, hin2 h2, h3⟩
def Rooms (xs : Obs) : Prop := ∀ (i b k : Nat) (e : TypeId) (n : Nat) (v : Value), xs[i]? = some (b, Ob.room k e n v) → v.ownBlock = none → v = nilS ∧ n = 0
def noFix : Nat × Ob → Bool
  | (_, .fix _) => false
  | _ => true
def Sole (xs : Obs) : Prop := ∀ (i j : Nat) (x y : Nat × Ob) (c : Nat), xs[i]? = some x → xs[j]? = some y → obBlk x = some c → obBlk y = some c → i = j
theorem free_of {xs : Obs} (hr : Rooms xs) (hf : xs.all noFix = true) {i b : Nat} {X : Ob} (hi : xs[i]? = some (b, X)) (hb : obBlk (b, X) = none) (M : Pm) (w : World) : ObRel M w (b, X) := by
  have hf := List.all_eq_true.1 hf _ (List.mem_of_getElem? hi)
  cases X with
  | fix cs => exact absurd hf Bool.false_ne_true
  | room k e n v => exact .inl (hr i b _ _ _ _ hi hb)
  | gone => exact True.intro
  | _ => simp [obBlk] at hb
theorem Imp.unpark {ts : List T} {ob xs : Obs} {gl : Glb} (h1 : Sole xs) (h2 : Rooms xs) (h3 : xs.all noFix = true) (h4 : Dj (pkO xs) gl) : Imp ts ob (joinG (pkO xs) gl) ts (ob ++ xs) gl := by
  have hat : ∀ {i b : Nat} {X : Ob} {c : Nat}, xs[i]? = some (b, X) → obBlk (b, X) = some c → pkO xs c = some X := fun {i b X c} hi hb => by
    cases e : pkO xs c with
    | none => exact absurd hb (pkO_none e hi)
    | some y =>
      obtain ⟨k, b', g1, g2⟩ := pkO_some e
      have := h1 i k _ _ c hi g1 hb g2
      subst this
      rw [hi] at g1
      injection g1 with g1
      injection g1 with _ g1
      rw [g1]
  have hcase : ∀ {i : Nat} {x : Nat × Ob}, (ob ++ xs)[i]? = some x → (ob[i]? = some x ∧ i < ob.length) ∨ (ob.length ≤ i ∧ xs[i - ob.length]? = some x) := fun {i x} h => by
    rw [List.getElem?_append] at h
    split at h
    · exact .inl ⟨h, by assumption⟩
    · exact .inr ⟨by omega, h⟩
  refine ⟨fun _ _ h => h, fun M w h => ?_, fun c hc => ?_⟩
  · have hob : ∀ {i b : Nat} {X : Ob}, xs[i]? = some (b, X) → ObRel M w (b, X) := fun {i b X} hi => by
      cases hb : obBlk (b, X) with
      | none => exact free_of h2 h3 hi hb M w
      | some c =>
        have := (h.glob c X (joinG_l (hat hi hb))).2
        cases X <;> first
          | exact this
          | (injection hb with hb; subst hb; exact this)
          | cases hb
    refine ⟨h.promise, fun i x hx => ?_, fun i j x y c hx hy g1 g2 => ?_, fun c x hx => ?_, fun i x c hx g1 => ?_⟩
    · rcases hcase hx with ⟨g, _⟩ | ⟨_, g⟩
      · exact h.objs i x g
      · exact hob g
    · rcases hcase hx with ⟨k1, k2⟩ | ⟨k1, k2⟩ <;> rcases hcase hy with ⟨l1, l2⟩ | ⟨l1, l2⟩
      · exact h.apart i j x y c k1 l1 g1 g2
      · have := h.sep i x c k1 g1
        rw [joinG_l (hat (b := y.1) (X := y.2) l2 g2)] at this; cases this
      · have := h.sep j y c l1 g2
        rw [joinG_l (hat (b := x.1) (X := x.2) k2 g1)] at this; cases this
      · have := h1 _ _ x y c k2 l2 g1 g2
        omega
    · exact h.glob c x (by
        cases e : pkO xs c with
        | none => rw [joinG_r e]; exact hx
        | some y => rw [h4 c (by rw [e]; rfl)] at hx; cases hx)
    · rcases hcase hx with ⟨k1, _⟩ | ⟨_, k1⟩
      · exact (joinG_none.1 (h.sep i x c k1 g1)).2
      · exact h4 c (by rw [hat (b := x.1) (X := x.2) k1 g1]; rfl)
  · rcases hc with ⟨i, x, g1, g2⟩ | g
    · rcases hcase g1 with ⟨k1, _⟩ | ⟨_, k1⟩
      · exact .inl ⟨i, x, k1, g2⟩
      · refine .inr ?_
        rw [joinG_l (hat (b := x.1) (X := x.2) k1 g2)]; rfl
    · refine .inr ?_
      cases e : pkO xs c with
      | none => rw [joinG_r e]; exact g
      | some y => rw [joinG_l e]; rfl
theorem TWk.fine {P : Program} {Γ : Ctx} {R : S → Prop} {c : Code} {k : List It} {s : S} (h : Apart s.ob s.gl → Rooms s.ob → TWk P Γ R (.code c :: k) s) : TWk P Γ R (.code c :: k) s :=
  ⟨fun M a w hs => (h ⟨hs.hp.apart, hs.hp.sep⟩ fun i b k e n v hi hv => by
    have := hs.hp.objs i _ hi
    rcases this with h | ⟨g, z, cap, C, tr, h, _⟩
    · exact h
    · rw [h] at hv; cases hv).out M a w hs⟩
theorem TCalls.frameG {P : Program} {f : FuncId} {ts : List T} {ob : Obs} {g1 : Glb} {Q : T → Obs → Glb → Prop} (h : TCalls P f ts ob g1 Q) (g2 : Glb) (hd : Dj g1 g2) :
    TCalls P f ts ob (joinG g1 g2) (fun r ob' gl' => ∃ g', gl' = joinG g' g2 ∧ Dj g' g2 ∧ Q r ob' g') := by
  refine ⟨h.can, fun M w xs hp hx => ?_⟩
  have hp1 : HRel M ob g1 w := ⟨hp.promise, hp.objs, hp.apart, fun c x e => hp.glob c x (joinG_l e), fun i x c h1 h2 => (joinG_none.1 (hp.sep i x c h1 h2)).1⟩
  refine (h.calls M w xs hp1 hx).mono fun _ w' ⟨x, r, M', ob', g', h1, h2, h3, h4, h5⟩ => ?_
  have at2 : ∀ {c : Nat} {X : Ob}, g2 c = some X → obBlk (c, X) = some c ∧ ObRel M w (c, X) ∧ ¬ Dom ob g1 c ∧ c < w.heap.size := fun {c X} e => by
    have e1 : g1 c = none := by
      cases e2 : g1 c with
      | none => rfl
      | some y => rw [hd c (by rw [e2]; rfl)] at e; cases e
    have := hp.glob c X (by rw [joinG_r e1]; exact e)
    refine ⟨this.1, this.2, ?_, this.2.lt this.1⟩
    rintro (⟨i, y, k1, k2⟩ | k)
    · have := hp.sep i y c k1 k2
      rw [joinG_r e1, e] at this; cases this
    · rw [e1] at k; cases k
  have dj : Dj g' g2 := fun c hc => by
    cases e : g2 c with
    | none => rfl
    | some X =>
      obtain ⟨_, _, k1, k2⟩ := at2 e
      rcases h4.own c (.inr hc) with k | k
      · exact absurd k k1
      · have k : w.heap.size ≤ c := k
        omega
  refine ⟨x, r, M', ob', joinG g' g2, h1, h2, ?_, ?_, g', rfl, dj, h5⟩
  · refine ⟨h3.promise, h3.objs, h3.apart, fun c X e => ?_, fun i y c k1 k2 => ?_⟩
    · cases e1 : g' c with
      | some Y => rw [joinG_l e1] at e; injection e with e; subst e; exact h3.glob c _ e1
      | none =>
        rw [joinG_r e1] at e
        obtain ⟨k1, k2, k3, k4⟩ := at2 e
        refine ⟨k1, k2.keep (fun b hb => ?_) (fun b hb o => ?_) h4.more⟩
        · rw [k1] at hb; injection hb with hb; subst hb
          exact h4.fr.block _ k4 k3
        · rw [k1] at hb; injection hb with hb; subst hb
          cases e2 : M c o with
          | some v => exact h4.more c o v e2
          | none =>
            cases e3 : M' c o with
            | none => rfl
            | some v =>
              rcases h4.only c o v e3 with k | k | k
              · rw [show M c o = some v from k] at e2; cases e2
              · exact absurd k k3
              · have k : w.heap.size ≤ c := k
                omega
    · refine joinG_none.2 ⟨h3.sep i y c k1 k2, ?_⟩
      cases e : g2 c with
      | none => rfl
      | some X =>
        obtain ⟨_, _, k3, k4⟩ := at2 e
        rcases h4.own c (.inl ⟨i, y, k1, k2⟩) with k | k
        · exact absurd k k3
        · have k : w.heap.size ≤ c := k
          omega
  · have hsub : ∀ b, Dom ob g1 b → Dom ob (joinG g1 g2) b := fun b hb => by
      rcases hb with k | k
      · exact .inl k
      · refine .inr ?_
        cases e : g1 b with
        | none => rw [e] at k; cases k
        | some X => rw [joinG_l e]; rfl
    have h6 := h4.wider hsub
    refine ⟨h6.more, h6.only, h6.fr, fun b hb => ?_⟩
    rcases hb with k | k
    · exact h6.own b (.inl k)
    · cases e : g' b with
      | some Y => exact h6.own b (.inr (by rw [e]; rfl))
      | none =>
        rw [joinG_r e] at k
        refine .inl (.inr ?_)
        cases e1 : g1 b with
        | some Y => rw [joinG_l e1]; rfl
        | none => rw [joinG_r e1]; exact k
def lotG : List Glb → Glb
  | [] => none_
  | g :: gs => joinG g (lotG gs)
def AllDj (us : List Glb) : Prop := us.Pairwise Dj
theorem lotG_dj {g : Glb} : ∀ {us : List Glb}, (∀ u ∈ us, Dj g u) → Dj g (lotG us)
  | [], _ => Dj.none g
  | u :: us, h => (h u (List.mem_cons_self ..)).join (lotG_dj fun v hv => h v (List.mem_cons_of_mem _ hv))
theorem dj_lotG {g : Glb} : ∀ {us : List Glb}, Dj g (lotG us) → ∀ u ∈ us, Dj g u
  | u :: us, h, v, hv => by
    rcases List.mem_cons.1 hv with rfl | hv
    · exact Dj.left h
    · exact dj_lotG (Dj.right h) v hv
theorem lotG_out : ∀ {us : List Glb} {i : Nat} {u : Glb}, AllDj us → us[i]? = some u → lotG us = joinG u (lotG (us.eraseIdx i)) ∧ Dj u (lotG (us.eraseIdx i))
  | [], i, u, _, h => by simp at h
  | v :: us, 0, u, hd, h => by
    injection h with h
    subst h
    exact ⟨rfl, lotG_dj (List.pairwise_cons.1 hd).1⟩
  | v :: us, i + 1, u, hd, h => by
    obtain ⟨d1, d2⟩ := List.pairwise_cons.1 hd
    have h : us[i]? = some u := h
    obtain ⟨e1, e2⟩ := lotG_out d2 h
    have dvu : Dj v u := d1 u (List.mem_of_getElem? h)
    refine ⟨?_, ?_⟩
    · show joinG v (lotG us) = joinG u (joinG v (lotG (us.eraseIdx i)))
      rw [e1, ← joinG_assoc, ← joinG_assoc, joinG_comm dvu]
    · exact (Dj.join dvu.symm e2)
theorem lotG_in : ∀ {us : List Glb} {i : Nat} {u' : Glb}, AllDj us → i < us.length → Dj u' (lotG (us.eraseIdx i)) → lotG (us.set i u') = joinG u' (lotG (us.eraseIdx i)) ∧ AllDj (us.set i u')
  | [], i, u', _, h, _ => by simp at h
  | v :: us, 0, u', hd, _, h => ⟨rfl, List.pairwise_cons.2 ⟨dj_lotG h, (List.pairwise_cons.1 hd).2⟩⟩
  | v :: us, i + 1, u', hd, hl, h => by
    obtain ⟨d1, d2⟩ := List.pairwise_cons.1 hd
    have hl : i < us.length := by simpa using hl
    have h : Dj u' (joinG v (lotG (us.eraseIdx i))) := h
    obtain ⟨e1, e2⟩ := lotG_in d2 hl (Dj.right h)
    refine ⟨?_, List.pairwise_cons.2 ⟨fun w hw => ?_, e2⟩⟩
    · show joinG v (lotG (us.set i u')) = joinG u' (joinG v (lotG (us.eraseIdx i)))
      rw [e1, ← joinG_assoc, ← joinG_assoc, joinG_comm (Dj.left h).symm]
    · rcases List.mem_or_eq_of_mem_set hw with hw | rfl
      · exact d1 w hw
      · exact (Dj.left h).symm
theorem lotG_snoc {us : List Glb} {u : Glb} (hd : AllDj us) (h : Dj u (lotG us)) : lotG (us ++ [u]) = joinG u (lotG us) ∧ AllDj (us ++ [u]) := by
  induction us with
  | nil => exact ⟨rfl, List.pairwise_singleton ..⟩
  | cons v us ih =>
    obtain ⟨d1, d2⟩ := List.pairwise_cons.1 hd
    have h : Dj u (joinG v (lotG us)) := h
    obtain ⟨e1, e2⟩ := ih d2 (Dj.right h)
    refine ⟨?_, List.pairwise_cons.2 ⟨fun w hw => ?_, e2⟩⟩
    · show joinG v (lotG (us ++ [u])) = joinG u (joinG v (lotG us))
      rw [e1, ← joinG_assoc, ← joinG_assoc, joinG_comm (Dj.left h).symm]
    · rcases List.mem_append.1 hw with hw | hw
      · exact d1 w hw
      · rw [List.mem_singleton.1 hw]; exact (Dj.left h).symm
theorem Apart.sole {ob xs : Obs} {gl : Glb} (h : Apart (ob ++ xs) gl) : Sole xs := fun i j x y c hx hy h1 h2 => by
  have := h.apart (ob.length + i) (ob.length + j) x y c (by rw [List.getElem?_append_right (Nat.le_add_right _ _), Nat.add_sub_cancel_left]; exact hx) (by rw [List.getElem?_append_right (Nat.le_add_right _ _), Nat.add_sub_cancel_left]; exact hy) h1 h2
  omega
theorem Apart.dj {ob xs : Obs} {gl : Glb} (h : Apart (ob ++ xs) gl) : Dj (pkO xs) gl := fun c hc => by
  obtain ⟨X, e⟩ := Option.isSome_iff_exists.1 hc
  obtain ⟨i, b, h1, h2⟩ := pkO_some e
  exact h.sep (ob.length + i) _ c (by rw [List.getElem?_append_right (Nat.le_add_right _ _), Nat.add_sub_cancel_left]; exact h1) h2
theorem Sole.l {xs ys : Obs} (h : Sole (xs ++ ys)) : Sole xs := fun i j x y c hx hy h1 h2 =>
  h i j x y c (by rw [List.getElem?_append_left (List.getElem?_eq_some_iff.1 hx).1]; exact hx) (by rw [List.getElem?_append_left (List.getElem?_eq_some_iff.1 hy).1]; exact hy) h1 h2
theorem Sole.r {xs ys : Obs} (h : Sole (xs ++ ys)) : Sole ys := fun i j x y c hx hy h1 h2 => by
  have := h (xs.length + i) (xs.length + j) x y c (by rw [List.getElem?_append_right (Nat.le_add_right _ _), Nat.add_sub_cancel_left]; exact hx) (by rw [List.getElem?_append_right (Nat.le_add_right _ _), Nat.add_sub_cancel_left]; exact hy) h1 h2
  omega
theorem Sole.dj {xs ys : Obs} (h : Sole (xs ++ ys)) : Dj (pkO xs) (pkO ys) := fun c hc => by
  cases e : pkO ys c with
  | none => rfl
  | some Y =>
    obtain ⟨X, e1⟩ := Option.isSome_iff_exists.1 hc
    obtain ⟨i, b, h1, h2⟩ := pkO_some e1
    obtain ⟨j, b', h3, h4⟩ := pkO_some e
    have hl := (List.getElem?_eq_some_iff.1 h1).1
    have := h i (xs.length + j) _ _ c (by rw [List.getElem?_append_left hl]; exact h1) (by rw [List.getElem?_append_right (Nat.le_add_right _ _), Nat.add_sub_cancel_left]; exact h3) h2 h4
    omega
theorem Rooms.r {xs ys : Obs} (h : Rooms (xs ++ ys)) : Rooms ys := fun i b k e n v hx hv => h (xs.length + i) b k e n v (by rw [List.getElem?_append_right (Nat.le_add_right _ _), Nat.add_sub_cancel_left]; exact hx) hv
theorem Rooms.l {xs ys : Obs} (h : Rooms (xs ++ ys)) : Rooms xs := fun i b k e n v hx hv => h i b k e n v (by rw [List.getElem?_append_left (List.getElem?_eq_some_iff.1 hx).1]; exact hx) hv
theorem Imp.point {ts : List T} {ob ob' : Obs} {gl : Glb} (h : ∀ (i : Nat) (x' : Nat × Ob), ob'[i]? = some x' → ∃ x, ob[i]? = some x ∧ (∀ M w, ObRel M w x → ObRel M w x') ∧ obBlk x' = obBlk x) : Imp ts ob gl ts ob' gl :=
  ⟨fun _ _ h => h, fun M w r => ⟨r.promise, fun i x' hx => by
    obtain ⟨x, h1, h2, _⟩ := h i x' hx
    exact h2 M w (r.objs i x h1), fun i j x' y' b hx hy h1 h2 => by
    obtain ⟨x, a1, _, a3⟩ := h i x' hx
    obtain ⟨y, b1, _, b3⟩ := h j y' hy
    exact r.apart i j x y b a1 b1 (by rw [← a3]; exact h1) (by rw [← b3]; exact h2), r.glob, fun i x' b hx h1 => by
    obtain ⟨x, a1, _, a3⟩ := h i x' hx
    exact r.sep i x b a1 (by rw [← a3]; exact h1)⟩, fun b hb => by
    rcases hb with ⟨i, x', hx, h1⟩ | hb
    · obtain ⟨x, a1, _, a3⟩ := h i x' hx
      exact .inl ⟨i, x, a1, by rw [← a3]; exact h1⟩
    · exact .inr hb⟩
theorem Imp.ixP {ts : List T} {xs ys zs : Obs} {gl : Glb} (f : Nat → Nat) : Imp ts (xs ++ (ys ++ zs)) gl ts (xs ++ (ys.map (ixOb f) ++ zs)) gl := by
  refine Imp.point fun i x' hx => ?_
  rw [List.getElem?_append] at hx
  split at hx
  · rename_i hl
    exact ⟨x', by rw [List.getElem?_append_left hl]; exact hx, fun _ _ h => h, rfl⟩
  · rename_i hl
    rw [List.getElem?_append, List.length_map] at hx
    split at hx
    · rename_i hl2
      rw [List.getElem?_map, Option.map_eq_some_iff] at hx
      obtain ⟨x, h1, rfl⟩ := hx
      exact ⟨x, by rw [List.getElem?_append_right (by omega), List.getElem?_append_left hl2]; exact h1, fun _ _ h => ixOb_rel h, ixOb_blk⟩
    · rename_i hl2
      exact ⟨x', by rw [List.getElem?_append_right (by omega), List.getElem?_append_right (by omega)]; exact hx, fun _ _ h => h, rfl⟩
theorem two_out {a ra p rp : Glb} (d : Dj (joinG a ra) (joinG p rp)) : joinG (joinG a ra) (joinG p rp) = joinG a (joinG p (joinG ra rp)) := by
  have d1 : Dj ra p := fun c hc => by
    have := d c (by
      cases e : a c with
      | some x => rw [joinG_l e]; rfl
      | none => rw [joinG_r e]; exact hc)
    exact (joinG_none.1 this).1
  rw [joinG_assoc, ← joinG_assoc ra p rp, joinG_comm d1, joinG_assoc]
theorem Dj.lefts {g h k : Glb} (d : Dj (joinG g h) k) : Dj g k := fun c hc => d c (by obtain ⟨x, e⟩ := Option.isSome_iff_exists.1 hc; rw [joinG_l e]; rfl)
theorem Dj.rights {g h k : Glb} (d : Dj (joinG g h) k) : Dj h k := fun c hc => d c (by
  cases e : g c with
  | some x => rw [joinG_l e]; rfl
  | none => rw [joinG_r e]; exact hc)
end Go.Proofs.YtcmcmafeaabjmaaGreat.Vm
