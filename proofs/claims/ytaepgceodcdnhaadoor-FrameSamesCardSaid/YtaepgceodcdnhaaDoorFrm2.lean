/- Frames: plain, a frame out of bytes as the program reads it. No program is named here. -/
import Derived.Test.YtaepgceodcdnhaaDoorFrm1
namespace Go.Proofs.YtaepgceodcdnhaaDoor.Frm
open Oct (getN takeL)
structure RS where
  l : List UInt8
  e : Int
  bad : Bool
def rnum (k : Nat) (s : RS) : Nat := getN (takeL s.l s.e 0 k).1
def rgo (k : Nat) (s : RS) : RS := ⟨(takeL s.l s.e 0 k).2.1, (takeL s.l s.e 0 k).2.2, s.bad⟩
def must (ok : Bool) (s : RS) : RS := if ok = false ∧ s.e ≠ 2 then ⟨s.l, s.e, true⟩ else s
def wrong (s : RS) : Bool := s.bad || decide (s.e = 2)
/-- what End tells -/
def endE (s : RS) : Int := if s.e ≠ 0 then s.e else if s.l ≠ [] then 3 else 0
/-- a reader's state -/
structure RS.Ok (s : RS) : Prop where
  l : s.l.length ≤ 1000000000
  e : s.e = 0 ∨ s.e = 2
theorem takeL_rest (l : List UInt8) (e : Int) (f : Int) (n : Int) : (takeL l e f n).2.1.length ≤ l.length := by
  unfold takeL
  split
  · exact Nat.le_refl _
  · split
    · exact Nat.le_refl _
    · split
      · exact Nat.le_refl _
      · show (l.drop _).length ≤ _; rw [List.length_drop]; omega
theorem takeL_err {l : List UInt8} {e : Int} {f : Int} {n : Int} (hn : 0 ≤ n) (he : e = 0 ∨ e = 2) : (takeL l e f n).2.2 = 0 ∨ (takeL l e f n).2.2 = 2 := by
  unfold takeL
  split
  · exact he
  · rw [if_neg (by omega)]
    split
    · exact .inr rfl
    · exact .inl rfl
theorem RS.Ok.go {s : RS} (h : s.Ok) (k : Nat) : (rgo k s).Ok := ⟨Nat.le_trans (takeL_rest _ _ _ _) h.l, takeL_err (by omega) h.e⟩
theorem RS.Ok.must {s : RS} (h : s.Ok) (b : Bool) : (Frm.must b s).Ok := by
  unfold Frm.must
  split
  · exact ⟨h.l, h.e⟩
  · exact h
theorem takeL_k (l : List UInt8) (e : Int) (k : Nat) : (takeL l e 0 k).1.length ≤ k := by
  unfold takeL
  split
  · exact Nat.zero_le _
  · split
    · exact Nat.zero_le _
    · split
      · exact Nat.zero_le _
      · show ((l.take _).drop _).length ≤ _; rw [List.length_drop, List.length_take]; omega
theorem rnum1_lt (s : RS) : rnum 1 s < 256 := by
  have h := Oct.getN_lt (takeL s.l s.e 0 (1 : Nat)).1
  have h1 := takeL_k s.l s.e 1
  have : 256 ^ (takeL s.l s.e 0 (1 : Nat)).1.length ≤ 256 ^ 1 := Nat.pow_le_pow_right (by decide) h1
  unfold rnum
  omega
theorem rnum4_lt (s : RS) : rnum 4 s < 4294967296 := by
  have h := Oct.getN_lt (takeL s.l s.e 0 (4 : Nat)).1
  have h1 := takeL_k s.l s.e 4
  have : 256 ^ (takeL s.l s.e 0 (4 : Nat)).1.length ≤ 256 ^ 4 := Nat.pow_le_pow_right (by decide) h1
  unfold rnum
  omega
def flagB (s : RS) : Bool := decide (rnum 1 s = 1)
def flagS (s : RS) : RS := must (decide (rnum 1 s ≤ 1)) (rgo 1 s)
theorem RS.Ok.flag {s : RS} (h : s.Ok) : (flagS s).Ok := (h.go 1).must _
def markS (s : RS) : RS := rgo 1 (rgo 4 s)
theorem RS.Ok.mark {s : RS} (h : s.Ok) : (markS s).Ok := (h.go 4).go 1
def cmdR (s : RS) : Cmd := ⟨rnum 1 s, rnum 1 (rgo 1 s), rnum 1 (rgo 1 (rgo 1 s)), rnum 4 (rgo 1 (rgo 1 (rgo 1 s))), rnum 4 (rgo 4 (rgo 1 (rgo 1 (rgo 1 s))))⟩
def cmdS (s : RS) : RS := rgo 4 (rgo 4 (rgo 1 (rgo 1 (rgo 1 s))))
theorem RS.Ok.cmd {s : RS} (h : s.Ok) : (cmdS s).Ok := ((((h.go 1).go 1).go 1).go 4).go 4
def cntS (most : Nat) (s : RS) : RS := must (decide (rnum 1 s ≤ most)) (rgo 1 s)
def cntN (most : Nat) (s : RS) : Nat := if wrong (cntS most s) = true then 0 else rnum 1 s
theorem RS.Ok.cnt {s : RS} (h : s.Ok) (most : Nat) : (cntS most s).Ok := (h.go 1).must _
/-- a text -/
def txtN (l : List UInt8) : Nat × Nat := match l with | [] => (0, 1) | c :: _ => (1, c.toNat)
def txtX (s : RS) : List UInt8 := (takeL s.l s.e (txtN s.l).1 (txtN s.l).2).1
def txtS (s : RS) : RS := ⟨(takeL s.l s.e (txtN s.l).1 (txtN s.l).2).2.1, (takeL s.l s.e (txtN s.l).1 (txtN s.l).2).2.2, s.bad⟩
theorem RS.Ok.txt {s : RS} (h : s.Ok) : (txtS s).Ok := ⟨Nat.le_trans (takeL_rest _ _ _ _) h.l, takeL_err (by omega) h.e⟩
/-- a value -/
def valR (s : RS) : (Bool × List UInt8) × RS :=
  if wrong (flagS s) = true then ((false, []), flagS s)
  else ((flagB s, txtX (flagS s)), must (valOk (flagB s) (txtX (flagS s))) (txtS (flagS s)))
theorem RS.Ok.val {s : RS} (h : s.Ok) : (valR s).2.Ok := by
  unfold valR
  split
  · exact h.flag
  · exact h.flag.txt.must _
def memR (s : RS) : Mem := ⟨rnum 1 s, rnum 1 (rgo 1 s), flagB (rgo 1 (rgo 1 s))⟩
def memS (s : RS) : RS := flagS (rgo 1 (rgo 1 s))
theorem RS.Ok.mem {s : RS} (h : s.Ok) : (memS s).Ok := ((h.go 1).go 1).flag
def memsR : Nat → RS → List Mem × RS
  | 0, s => ([], s)
  | n + 1, s => if wrong s = true then ([], s) else (memR s :: (memsR n (memS s)).1, (memsR n (memS s)).2)
theorem RS.Ok.mems : ∀ (n : Nat) {s : RS}, s.Ok → (memsR n s).2.Ok
  | 0, _, h => h
  | n + 1, s, h => by
    unfold memsR
    split
    · exact h
    · exact RS.Ok.mems n h.mem
theorem mems_len : ∀ (n : Nat) (s : RS), (memsR n s).1.length ≤ n
  | 0, _ => Nat.le_refl _
  | n + 1, s => by
    unfold memsR
    split
    · exact Nat.zero_le _
    · show (memsR n (memS s)).1.length + 1 ≤ n + 1
      have := mems_len n (memS s); omega
def lvsOf (b : List UInt8) : Lvs := ⟨(b.getD 0 0).toNat, (b.getD 1 0).toNat, (b.getD 2 0).toNat, (b.getD 3 0).toNat, (b.getD 4 0).toNat, (b.getD 5 0).toNat, (b.getD 6 0).toNat, (b.getD 7 0).toNat⟩
/-- a view: its epoch, its members, its lives -/
def viewR (s : RS) : (Nat × List Mem × Lvs) × RS :=
  let s1 := cntS 8 (rgo 4 s)
  let q := memsR (cntN 8 (rgo 4 s)) s1
  if wrong q.2 = true then ((rnum 4 s, q.1, lvsOf []), q.2)
  else ((rnum 4 s, q.1, lvsOf (takeL q.2.l q.2.e 0 8).1), ⟨(takeL q.2.l q.2.e 0 8).2.1, (takeL q.2.l q.2.e 0 8).2.2, q.2.bad⟩)
theorem RS.Ok.view {s : RS} (h : s.Ok) : (viewR s).2.Ok := by
  have hq := RS.Ok.mems (cntN 8 (rgo 4 s)) ((h.go 4).cnt 8)
  unfold viewR
  dsimp only
  split
  · exact hq
  · exact ⟨Nat.le_trans (takeL_rest _ _ _ _) hq.l, takeL_err (by omega) hq.e⟩
def entR (s : RS) : Ent := ⟨rnum 4 s, rnum 4 (rgo 4 s), rnum 1 (rgo 4 (rgo 4 s)), cmdR (markS (rgo 4 s))⟩
def entS (s : RS) : RS := cmdS (markS (rgo 4 s))
theorem RS.Ok.ent {s : RS} (h : s.Ok) : (entS s).Ok := (h.go 4).mark.cmd
def entsR : Nat → RS → List Ent × RS
  | 0, s => ([], s)
  | n + 1, s => if wrong s = true then ([], s) else (entR s :: (entsR n (entS s)).1, (entsR n (entS s)).2)
theorem RS.Ok.ents : ∀ (n : Nat) {s : RS}, s.Ok → (entsR n s).2.Ok
  | 0, _, h => h
  | n + 1, s, h => by
    unfold entsR
    split
    · exact h
    · exact RS.Ok.ents n h.ent
theorem ents_len : ∀ (n : Nat) (s : RS), (entsR n s).1.length ≤ n
  | 0, _ => Nat.le_refl _
  | n + 1, s => by
    unfold entsR
    split
    · exact Nat.zero_le _
    · show (entsR n (entS s)).1.length + 1 ≤ n + 1
      have := ents_len n (entS s); omega
/-- a field of a frame -/
def fldR (c : Nat) (s : RS) (f : Fm) : Fm × RS :=
  if c = 101 then ({ f with ep := rnum 4 s }, rgo 4 s)
  else if c = 107 then ({ f with key := rnum 1 s }, must (decide (rnum 1 s < 6)) (rgo 1 s))
  else if c = 115 then ({ f with sn := rnum 4 s, sb := rnum 1 (rgo 4 s), sl := rnum 1 (markS s) }, rgo 1 (markS s))
  else if c = 118 then ({ f with has := (valR s).1.1, x := (valR s).1.2 }, (valR s).2)
  else if c = 114 then ({ f with rmw := flagB s }, flagS s)
  else if c = 102 then ({ f with flag := flagB s }, flagS s)
  else if c = 100 then ({ f with dir := rnum 1 s }, rgo 1 s)
  else if c = 108 then ({ f with life := rnum 1 s }, rgo 1 s)
  else if c = 113 then ({ f with req := rnum 4 s }, rgo 4 s)
  else if c = 98 then ({ f with bn := rnum 4 s, bb := rnum 1 (rgo 4 s) }, markS s)
  else if c = 110 then ({ f with slot := rnum 4 s }, rgo 4 s)
  else if c = 99 then ({ f with c := cmdR s }, cmdS s)
  else if c = 119 then ({ f with ve := (viewR s).1.1, ms := (viewR s).1.2.1, lv := (viewR s).1.2.2 }, (viewR s).2)
  else ({ f with es := (entsR (cntN 16 s) (cntS 16 s)).1 }, (entsR (cntN 16 s) (cntS 16 s)).2)
theorem RS.Ok.fld {s : RS} (h : s.Ok) (c : Nat) (f : Fm) : (fldR c s f).2.Ok := by
  unfold fldR
  by_cases g : c = 101
  · rw [if_pos g]; exact h.go 4
  rw [if_neg g]; clear g
  by_cases g : c = 107
  · rw [if_pos g]; exact (h.go 1).must _
  rw [if_neg g]; clear g
  by_cases g : c = 115
  · rw [if_pos g]; exact h.mark.go 1
  rw [if_neg g]; clear g
  by_cases g : c = 118
  · rw [if_pos g]; exact h.val
  rw [if_neg g]; clear g
  by_cases g : c = 114
  · rw [if_pos g]; exact h.flag
  rw [if_neg g]; clear g
  by_cases g : c = 102
  · rw [if_pos g]; exact h.flag
  rw [if_neg g]; clear g
  by_cases g : c = 100
  · rw [if_pos g]; exact h.go 1
  rw [if_neg g]; clear g
  by_cases g : c = 108
  · rw [if_pos g]; exact h.go 1
  rw [if_neg g]; clear g
  by_cases g : c = 113
  · rw [if_pos g]; exact h.go 4
  rw [if_neg g]; clear g
  by_cases g : c = 98
  · rw [if_pos g]; exact h.mark
  rw [if_neg g]; clear g
  by_cases g : c = 110
  · rw [if_pos g]; exact h.go 4
  rw [if_neg g]; clear g
  by_cases g : c = 99
  · rw [if_pos g]; exact h.cmd
  rw [if_neg g]; clear g
  by_cases g : c = 119
  · rw [if_pos g]; exact h.view
  · rw [if_neg g]; exact RS.Ok.ents _ (h.cnt 16)
def fldsR : List Nat → RS → Fm → Fm × RS
  | [], s, f => (f, s)
  | c :: cs, s, f => if wrong s = true then (f, s) else fldsR cs (fldR c s f).2 (fldR c s f).1
theorem RS.Ok.flds : ∀ (cs : List Nat) {s : RS} (f : Fm), s.Ok → (fldsR cs s f).2.Ok
  | [], _, _, h => h
  | c :: cs, s, f, h => by
    unfold fldsR
    split
    · exact h
    · exact RS.Ok.flds cs _ (h.fld c f)
def fm0 : Fm := ⟨0, 0, 0, 0, 0, 0, 0, 0, false, [], false, false, 0, 0, 0, 0, 0, 0, ⟨0, 0, 0, 0, 0⟩, 0, [], ⟨0, 0, 0, 0, 0, 0, 0, 0⟩, []⟩
/-- a frame out of its bytes without the sum -/
def hdF (l : List UInt8) : Fm := { fm0 with kind := rnum 1 ⟨l, 0, false⟩, frm := rnum 1 (rgo 1 ⟨l, 0, false⟩), to := rnum 1 (rgo 1 (rgo 1 ⟨l, 0, false⟩)) }
def hdS (l : List UInt8) : RS := must (hasKind (hdF l).kind) (rgo 1 (rgo 1 (rgo 1 ⟨l, 0, false⟩)))
def letsK (k : Nat) : List Nat := if hasKind k = true then lets k else []
def bodyR (l : List UInt8) : Fm × RS := fldsR (letsK (hdF l).kind) (hdS l) (hdF l)
def decB (l : List UInt8) : Fm × Int := if (bodyR l).2.bad = true then (fm0, 4) else if endE (bodyR l).2 ≠ 0 then (fm0, endE (bodyR l).2) else ((bodyR l).1, 0)
/-- what crc.Open tells -/
def openE (l : List UInt8) : Int := if l.length < 4 then 2 else if Crc.sealL (l.take (l.length - 4)) ≠ l then 5 else 0
def decR (l : List UInt8) : Fm × Int := if openE l ≠ 0 then (fm0, openE l) else decB (l.take (l.length - 4))
end Go.Proofs.YtaepgceodcdnhaaDoor.Frm
