/- Texts of this claim, one behind the other: Frm3, FP, FQ, FR, Frm4. -/
import Derived.Test.YtaepgceodcdnhaaDoorMg5
import Derived.Test.YtaepgceodcdnhaaDoorMg6
/- Frames: plain, a frame out of bytes as the document reads it, and that both readers agree. No program is named here. -/
namespace Go.Proofs.YtaepgceodcdnhaaDoor.Frm
open Oct (getN takeL)
/-- the document's state of reading: the bytes, the place, what is wrong -/
structure Z where
  s : List UInt8
  a : Nat
  e : Int
structure Z.Ok (z : Z) : Prop where
  s : z.s.length ≤ 1000000000
  a : z.a ≤ z.s.length
def znum (k : Nat) (z : Z) : Nat := if z.e ≠ 0 then 0 else if z.s.length < z.a + k then 0 else getN ((z.s.drop z.a).take k)
def zgo (k : Nat) (z : Z) : Z := if z.e ≠ 0 then z else if z.s.length < z.a + k then ⟨z.s, z.a, 2⟩ else ⟨z.s, z.a + k, z.e⟩
def zmust (ok : Bool) (z : Z) : Z := if z.e = 0 ∧ ok = false then ⟨z.s, z.a, 4⟩ else z
theorem Z.Ok.go {z : Z} (h : z.Ok) (k : Nat) : (zgo k z).Ok := by
  unfold zgo
  split
  · exact h
  · split
    · exact ⟨h.s, h.a⟩
    · exact ⟨h.s, by show z.a + k ≤ z.s.length; omega⟩
theorem Z.Ok.must {z : Z} (h : z.Ok) (b : Bool) : (zmust b z).Ok := by
  unfold zmust
  split
  · exact ⟨h.s, h.a⟩
  · exact h
theorem znum_lt (k : Nat) (z : Z) : znum k z < 256 ^ k := by
  have hp : 0 < 256 ^ k := Nat.pow_pos (by decide)
  unfold znum
  split
  · exact hp
  · split
    · exact hp
    · have h := Oct.getN_lt ((z.s.drop z.a).take k)
      have : ((z.s.drop z.a).take k).length ≤ k := by rw [List.length_take]; omega
      have := Nat.pow_le_pow_right (n := 256) (by decide) this
      omega
theorem znum1_lt (z : Z) : znum 1 z < 256 := znum_lt 1 z
theorem znum4_lt (z : Z) : znum 4 z < 4294967296 := znum_lt 4 z
def zbitB (z : Z) : Bool := decide (znum 1 z = 1)
def zbitZ (z : Z) : Z := zmust (decide (znum 1 z ≤ 1)) (zgo 1 z)
theorem Z.Ok.bit {z : Z} (h : z.Ok) : (zbitZ z).Ok := (h.go 1).must _
def zcmd (z : Z) : Cmd := ⟨znum 1 z, znum 1 (zgo 1 z), znum 1 (zgo 1 (zgo 1 z)), znum 4 (zgo 1 (zgo 1 (zgo 1 z))), znum 4 (zgo 4 (zgo 1 (zgo 1 (zgo 1 z))))⟩
def zcmdZ (z : Z) : Z := zgo 4 (zgo 4 (zgo 1 (zgo 1 (zgo 1 z))))
theorem Z.Ok.cmd {z : Z} (h : z.Ok) : (zcmdZ z).Ok := ((((h.go 1).go 1).go 1).go 4).go 4
/-- a value -/
def zvz (z : Z) : Z := zgo 1 (zbitZ z)
def zvn (z : Z) : Nat := znum 1 (zbitZ z)
def zval (x0 : List UInt8) (z : Z) : (Bool × List UInt8) × Z :=
  if (zvz z).e ≠ 0 then ((zbitB z, x0), zvz z)
  else if (zvz z).s.length < (zvz z).a + zvn z then ((zbitB z, x0), ⟨(zvz z).s, (zvz z).a, 2⟩)
  else ((zbitB z, ((zvz z).s.take ((zvz z).a + zvn z)).drop (zvz z).a), zmust (decide (zvn z ≤ 32) && (zbitB z || decide (zvn z = 0))) ⟨(zvz z).s, (zvz z).a + zvn z, (zvz z).e⟩)
theorem Z.Ok.val {z : Z} (h : z.Ok) (x0 : List UInt8) : (zval x0 z).2.Ok := by
  have h1 : (zvz z).Ok := h.bit.go 1
  unfold zval
  split
  · exact h1
  · split
    · exact ⟨h1.s, h1.a⟩
    · have h2 : (Z.mk (zvz z).s ((zvz z).a + zvn z) (zvz z).e).Ok := ⟨h1.s, by show (zvz z).a + zvn z ≤ (zvz z).s.length; omega⟩
      exact h2.must _
def zmem (z : Z) : Mem := ⟨znum 1 z, znum 1 (zgo 1 z), zbitB (zgo 1 (zgo 1 z))⟩
def zmemZ (z : Z) : Z := zbitZ (zgo 1 (zgo 1 z))
theorem Z.Ok.mem {z : Z} (h : z.Ok) : (zmemZ z).Ok := ((h.go 1).go 1).bit
def zmems : Nat → Z → List Mem × Z
  | 0, z => ([], z)
  | n + 1, z => if z.e ≠ 0 then ([], z) else (zmem z :: (zmems n (zmemZ z)).1, (zmems n (zmemZ z)).2)
theorem Z.Ok.mems : ∀ (n : Nat) {z : Z}, z.Ok → (zmems n z).2.Ok
  | 0, _, h => h
  | n + 1, z, h => by
    unfold zmems
    split
    · exact h
    · exact Z.Ok.mems n h.mem
/-- eight bytes, one by one -/
def zgos : Nat → Z → Z
  | 0, z => z
  | n + 1, z => zgos n (zgo 1 z)
def zlv (z : Z) : Lvs := ⟨znum 1 z, znum 1 (zgos 1 z), znum 1 (zgos 2 z), znum 1 (zgos 3 z), znum 1 (zgos 4 z), znum 1 (zgos 5 z), znum 1 (zgos 6 z), znum 1 (zgos 7 z)⟩
theorem Z.Ok.gos : ∀ (n : Nat) {z : Z}, z.Ok → (zgos n z).Ok
  | 0, _, h => h
  | n + 1, _, h => Z.Ok.gos n (h.go 1)
theorem zgos_succ : ∀ (n : Nat) (z : Z), zgos (n + 1) z = zgo 1 (zgos n z)
  | 0, _ => rfl
  | n + 1, z => by rw [zgos, zgos_succ n]; rfl
def zcnt (most : Nat) (z : Z) : Z := zmust (decide (znum 1 z ≤ most)) (zgo 1 z)
def zview (z : Z) : (Nat × List Mem × Lvs) × Z :=
  let q := zmems (znum 1 (zgo 4 z)) (zcnt 8 (zgo 4 z))
  ((znum 4 z, q.1, zlv q.2), zgos 8 q.2)
theorem Z.Ok.cnt {z : Z} (h : z.Ok) (m : Nat) : (zcnt m z).Ok := (h.go 1).must _
theorem Z.Ok.view {z : Z} (h : z.Ok) : (zview z).2.Ok := Z.Ok.gos 8 (Z.Ok.mems _ ((h.go 4).cnt 8))
def zent (z : Z) : Ent := ⟨znum 4 z, znum 4 (zgo 4 z), znum 1 (zgo 4 (zgo 4 z)), zcmd (zgo 1 (zgo 4 (zgo 4 z)))⟩
def zentZ (z : Z) : Z := zcmdZ (zgo 1 (zgo 4 (zgo 4 z)))
theorem Z.Ok.ent {z : Z} (h : z.Ok) : (zentZ z).Ok := (((h.go 4).go 4).go 1).cmd
def zents : Nat → Z → List Ent × Z
  | 0, z => ([], z)
  | n + 1, z => if z.e ≠ 0 then ([], z) else (zent z :: (zents n (zentZ z)).1, (zents n (zentZ z)).2)
theorem Z.Ok.ents : ∀ (n : Nat) {z : Z}, z.Ok → (zents n z).2.Ok
  | 0, _, h => h
  | n + 1, z, h => by
    unfold zents
    split
    · exact h
    · exact Z.Ok.ents n h.ent
/-- a field of a frame -/
def zfld (c : Nat) (z : Z) (f : Fm) : Fm × Z :=
  if c = 101 then ({ f with ep := znum 4 z }, zgo 4 z)
  else if c = 107 then ({ f with key := znum 1 z }, zmust (decide (znum 1 z < 6)) (zgo 1 z))
  else if c = 115 then ({ f with sn := znum 4 z, sb := znum 1 (zgo 4 z), sl := znum 1 (zgo 1 (zgo 4 z)) }, zgo 1 (zgo 1 (zgo 4 z)))
  else if c = 118 then ({ f with has := (zval f.x z).1.1, x := (zval f.x z).1.2 }, (zval f.x z).2)
  else if c = 114 then ({ f with rmw := zbitB z }, zbitZ z)
  else if c = 102 then ({ f with flag := zbitB z }, zbitZ z)
  else if c = 100 then ({ f with dir := znum 1 z }, zgo 1 z)
  else if c = 108 then ({ f with life := znum 1 z }, zgo 1 z)
  else if c = 113 then ({ f with req := znum 4 z }, zgo 4 z)
  else if c = 98 then ({ f with bn := znum 4 z, bb := znum 1 (zgo 4 z) }, zgo 1 (zgo 4 z))
  else if c = 110 then ({ f with slot := znum 4 z }, zgo 4 z)
  else if c = 99 then ({ f with c := zcmd z }, zcmdZ z)
  else if c = 119 then ({ f with ve := (zview z).1.1, ms := (zview z).1.2.1, lv := (zview z).1.2.2 }, (zview z).2)
  else ({ f with es := (zents (znum 1 z) (zcnt 16 z)).1 }, (zents (znum 1 z) (zcnt 16 z)).2)
theorem Z.Ok.fld {z : Z} (h : z.Ok) (c : Nat) (f : Fm) : (zfld c z f).2.Ok := by
  unfold zfld
  by_cases g : c = 101
  · rw [if_pos g]; exact h.go 4
  rw [if_neg g]; clear g
  by_cases g : c = 107
  · rw [if_pos g]; exact (h.go 1).must _
  rw [if_neg g]; clear g
  by_cases g : c = 115
  · rw [if_pos g]; exact ((h.go 4).go 1).go 1
  rw [if_neg g]; clear g
  by_cases g : c = 118
  · rw [if_pos g]; exact h.val _
  rw [if_neg g]; clear g
  by_cases g : c = 114
  · rw [if_pos g]; exact h.bit
  rw [if_neg g]; clear g
  by_cases g : c = 102
  · rw [if_pos g]; exact h.bit
  rw [if_neg g]; clear g
  by_cases g : c = 100
  · rw [if_pos g]; exact h.go 1
  rw [if_neg g]; clear g
  by_cases g : c = 108
  · rw [if_pos g]; exact h.go 1
  rw [if_neg g]; clear g
  by_cases g : c = 113
  · rw [if_pos g]; exact h.go 4
  rw [if_neg g]; clear g
  by_cases g : c = 98
  · rw [if_pos g]; exact (h.go 4).go 1
  rw [if_neg g]; clear g
  by_cases g : c = 110
  · rw [if_pos g]; exact h.go 4
  rw [if_neg g]; clear g
  by_cases g : c = 99
  · rw [if_pos g]; exact h.cmd
  rw [if_neg g]; clear g
  by_cases g : c = 119
  · rw [if_pos g]; exact h.view
  rw [if_neg g]; clear g
  exact Z.Ok.ents _ (h.cnt 16)
def zflds : List Nat → Z → Fm → Fm × Z
  | [], z, f => (f, z)
  | c :: cs, z, f => if z.e ≠ 0 then (f, z) else zflds cs (zfld c z f).2 (zfld c z f).1
def zhd (l : List UInt8) : Fm := { fm0 with kind := znum 1 ⟨l, 0, 0⟩, frm := znum 1 (zgo 1 ⟨l, 0, 0⟩), to := znum 1 (zgo 1 (zgo 1 ⟨l, 0, 0⟩)) }
def zhdZ (l : List UInt8) : Z := zmust (decide (lets (zhd l).kind ≠ [])) (zgo 1 (zgo 1 (zgo 1 ⟨l, 0, 0⟩)))
def zbody (l : List UInt8) : Fm × Z := zflds (lets (zhd l).kind) (zhdZ l) (zhd l)
/-- the error at the end -/
def zend (z : Z) : Int := if z.e = 0 ∧ z.a < z.s.length then 3 else z.e
def zfin (f : Fm) (z : Z) : Fm × Int := if zend z ≠ 0 then (fm0, zend z) else (f, 0)
def zdecB (l : List UInt8) : Fm × Int := zfin (zbody l).1 (zbody l).2
/-! both readers -/
def Sim (z : Z) (s : RS) : Prop := z.a ≤ z.s.length ∧ (if z.e = 0 then s.bad = false ∧ s.e = 0 ∧ s.l = z.s.drop z.a else if z.e = 2 then s.bad = false ∧ s.e = 2 else z.e = 4 ∧ s.bad = true)
theorem Sim.cases {z : Z} {s : RS} (h : Sim z s) : (z.e = 0 ∧ s.bad = false ∧ s.e = 0 ∧ s.l = z.s.drop z.a) ∨ (z.e = 2 ∧ s.bad = false ∧ s.e = 2) ∨ (z.e = 4 ∧ s.bad = true) := by
  obtain ⟨_, h⟩ := h
  by_cases h0 : z.e = 0
  · rw [if_pos h0] at h; exact .inl ⟨h0, h⟩
  · rw [if_neg h0] at h
    by_cases h2 : z.e = 2
    · rw [if_pos h2] at h; exact .inr (.inl ⟨h2, h⟩)
    · rw [if_neg h2] at h; exact .inr (.inr h)
theorem Sim.of0 {z : Z} {s : RS} (ha : z.a ≤ z.s.length) (h : z.e = 0) (h1 : s.bad = false) (h2 : s.e = 0) (h3 : s.l = z.s.drop z.a) : Sim z s := ⟨ha, by rw [if_pos h]; exact ⟨h1, h2, h3⟩⟩
theorem Sim.of2 {z : Z} {s : RS} (ha : z.a ≤ z.s.length) (h : z.e = 2) (h1 : s.bad = false) (h2 : s.e = 2) : Sim z s := ⟨ha, by rw [if_neg (by rw [h]; decide), if_pos h]; exact ⟨h1, h2⟩⟩
theorem Sim.of4 {z : Z} {s : RS} (ha : z.a ≤ z.s.length) (h : z.e = 4) (h1 : s.bad = true) : Sim z s := ⟨ha, by rw [if_neg (by rw [h]; decide), if_neg (by rw [h]; decide)]; exact ⟨h, h1⟩⟩
theorem take0_off (l : List UInt8) (e : Int) (f k : Int) (h : e ≠ 0) : takeL l e f k = ([], l, e) := by unfold takeL; rw [if_pos h]
theorem take0_short (l : List UInt8) (k : Nat) (h : l.length < k) : takeL l 0 0 k = ([], l, 2) := by
  unfold takeL; rw [if_neg (by decide), if_neg (by omega), if_pos (by omega)]
theorem take0_ok (l : List UInt8) (k : Nat) (h : k ≤ l.length) : takeL l 0 0 k = (l.take k, l.drop k, 0) := by
  unfold takeL; rw [if_neg (by decide), if_neg (by omega), if_neg (by omega)]
  simp
theorem Sim.go {z : Z} {s : RS} (h : Sim z s) (k : Nat) : Sim (zgo k z) (rgo k s) := by
  have ha := h.1
  rcases h.cases with ⟨h0, h1, h2, h3⟩ | ⟨h0, h1, h2⟩ | ⟨h0, h1⟩
  · unfold zgo rgo
    rw [if_neg (fun g => g h0), h2, h3]
    by_cases hs : z.s.length < z.a + k
    · rw [if_pos hs, take0_short _ _ (by rw [List.length_drop]; omega)]
      exact .of2 ha rfl h1 rfl
    · rw [if_neg hs, take0_ok _ _ (by rw [List.length_drop]; omega)]
      exact .of0 (by show z.a + k ≤ z.s.length; omega) h0 h1 rfl (by show (z.s.drop z.a).drop k = _; rw [List.drop_drop])
  · unfold zgo rgo
    rw [if_pos (by rw [h0]; decide), take0_off _ _ _ _ (by rw [h2]; decide)]
    exact .of2 ha h0 h1 h2
  · unfold zgo rgo
    rw [if_pos (by rw [h0]; decide)]
    exact .of4 ha h0 h1
theorem Sim.num {z : Z} {s : RS} (h : Sim z s) (k : Nat) (h4 : z.e ≠ 4) : znum k z = rnum k s := by
  have ha := h.1
  rcases h.cases with ⟨h0, h1, h2, h3⟩ | ⟨h0, h1, h2⟩ | ⟨h0, h1⟩
  · unfold znum rnum
    rw [if_neg (fun g => g h0), h2, h3]
    by_cases hs : z.s.length < z.a + k
    · rw [if_pos hs, take0_short _ _ (by rw [List.length_drop]; omega)]; rfl
    · rw [if_neg hs, take0_ok _ _ (by rw [List.length_drop]; omega)]
  · unfold znum rnum
    rw [if_pos (by rw [h0]; decide), take0_off _ _ _ _ (by rw [h2]; decide)]; rfl
  · exact absurd h0 h4
theorem zgo_4 {z : Z} {k : Nat} (h : z.e ≠ 4) : (zgo k z).e ≠ 4 := by
  unfold zgo
  split
  · exact h
  · split
    · exact (by decide : (2 : Int) ≠ 4)
    · exact h
theorem Sim.must {z : Z} {s : RS} (h : Sim z s) {a b : Bool} (hab : z.e = 0 → a = b) : Sim (zmust a z) (Frm.must b s) := by
  have ha := h.1
  rcases h.cases with ⟨h0, h1, h2, h3⟩ | ⟨h0, h1, h2⟩ | ⟨h0, h1⟩
  · obtain rfl := hab h0
    unfold zmust Frm.must
    cases a with
    | false => rw [if_pos ⟨h0, rfl⟩, if_pos ⟨rfl, by rw [h2]; decide⟩]; exact .of4 ha rfl rfl
    | true => rw [if_neg (fun g => by cases g.2), if_neg (fun g => by cases g.1)]; exact h
  · unfold zmust Frm.must
    rw [if_neg (fun g => by rw [h0] at g; cases g.1), if_neg (fun g => g.2 h2)]; exact h
  · unfold zmust
    rw [if_neg (fun g => by rw [h0] at g; cases g.1)]
    unfold Frm.must
    split
    · exact .of4 ha h0 rfl
    · exact h
theorem Sim.wrong {z : Z} {s : RS} (h : Sim z s) : wrong s = decide (z.e ≠ 0) := by
  unfold Frm.wrong
  rcases h.cases with ⟨h0, h1, h2, h3⟩ | ⟨h0, h1, h2⟩ | ⟨h0, h1⟩
  · rw [h0, h1, h2]; rfl
  · rw [h0, h1, h2]; rfl
  · rw [h0, h1]; rfl
theorem zgo_e {z : Z} {k : Nat} (h : (zgo k z).e = 0) : z.e = 0 := by
  unfold zgo at h
  split at h
  · exact h
  · exact Classical.not_not.1 ‹_›
theorem zmust_e {z : Z} {b : Bool} (h : (zmust b z).e = 0) : z.e = 0 := by
  unfold zmust at h
  split at h
  · exact (‹_ ∧ _›).1
  · exact h
theorem Sim.bit {z : Z} {s : RS} (h : Sim z s) (h4 : z.e ≠ 4) : Sim (zbitZ z) (flagS s) ∧ zbitB z = flagB s := by
  have hn := h.num 1 h4
  refine ⟨?_, by unfold zbitB flagB; rw [hn]⟩
  unfold zbitZ flagS
  rw [hn]
  exact (h.go 1).must fun _ => rfl
theorem Sim.cmd {z : Z} {s : RS} (h : Sim z s) (h4 : z.e ≠ 4) : Sim (zcmdZ z) (cmdS s) ∧ zcmd z = cmdR s := by
  have g1 := h.go 1
  have g2 := g1.go 1
  have g3 := g2.go 1
  have g4 := g3.go 4
  have f1 := zgo_4 (k := 1) h4
  have f2 := zgo_4 (k := 1) f1
  have f3 := zgo_4 (k := 1) f2
  have f4 := zgo_4 (k := 4) f3
  refine ⟨g4.go 4, ?_⟩
  unfold zcmd cmdR
  rw [h.num 1 h4, g1.num 1 f1, g2.num 1 f2, g3.num 4 f3, g4.num 4 f4]
theorem zcmdZ_4 {z : Z} (h : z.e ≠ 4) : (zcmdZ z).e ≠ 4 := zgo_4 (zgo_4 (zgo_4 (zgo_4 (zgo_4 h))))
theorem Sim.mem {z : Z} {s : RS} (h : Sim z s) (h4 : z.e ≠ 4) : Sim (zmemZ z) (memS s) ∧ zmem z = memR s := by
  have g1 := h.go 1
  have g2 := g1.go 1
  have f1 := zgo_4 (k := 1) h4
  have f2 := zgo_4 (k := 1) f1
  refine ⟨(g2.bit f2).1, ?_⟩
  unfold zmem memR
  rw [h.num 1 h4, g1.num 1 f1, (g2.bit f2).2]
theorem Sim.ent {z : Z} {s : RS} (h : Sim z s) (h4 : z.e ≠ 4) : Sim (zentZ z) (entS s) ∧ zent z = entR s := by
  have g1 := h.go 4
  have g2 := g1.go 4
  have g3 := g2.go 1
  have f1 := zgo_4 (k := 4) h4
  have f2 := zgo_4 (k := 4) f1
  have f3 := zgo_4 (k := 1) f2
  refine ⟨(g3.cmd f3).1, ?_⟩
  unfold zent entR
  rw [h.num 4 h4, g1.num 4 f1, g2.num 1 f2, (g3.cmd f3).2]; rfl
theorem Sim.mems : ∀ (n : Nat) {z : Z} {s : RS}, Sim z s → Sim (zmems n z).2 (memsR n s).2 ∧ (zmems n z).1 = (memsR n s).1
  | 0, _, _, h => ⟨h, rfl⟩
  | n + 1, z, s, h => by
    have hw := h.wrong
    unfold zmems memsR
    by_cases h0 : z.e = 0
    · rw [if_neg (fun g => g h0), if_neg (by rw [hw, h0]; decide)]
      have hm := h.mem (by rw [h0]; decide)
      have ih := Sim.mems n hm.1
      exact ⟨ih.1, by rw [hm.2, ih.2]⟩
    · rw [if_pos h0, if_pos (by rw [hw, decide_eq_true h0])]
      exact ⟨h, rfl⟩
theorem Sim.ents : ∀ (n : Nat) {z : Z} {s : RS}, Sim z s → Sim (zents n z).2 (entsR n s).2 ∧ (zents n z).1 = (entsR n s).1
  | 0, _, _, h => ⟨h, rfl⟩
  | n + 1, z, s, h => by
    have hw := h.wrong
    unfold zents entsR
    by_cases h0 : z.e = 0
    · rw [if_neg (fun g => g h0), if_neg (by rw [hw, h0]; decide)]
      have hm := h.ent (by rw [h0]; decide)
      have ih := Sim.ents n hm.1
      exact ⟨ih.1, by rw [hm.2, ih.2]⟩
    · rw [if_pos h0, if_pos (by rw [hw, decide_eq_true h0])]
      exact ⟨h, rfl⟩
theorem Sim.cnt {z : Z} {s : RS} (h : Sim z s) (h4 : z.e ≠ 4) (most : Nat) : Sim (zcnt most z) (cntS most s) := by
  unfold zcnt cntS
  rw [h.num 1 h4]
  exact (h.go 1).must fun _ => rfl
theorem mems_off {z : Z} (h : z.e ≠ 0) : ∀ n, zmems n z = ([], z)
  | 0 => rfl
  | n + 1 => by unfold zmems; rw [if_pos h]
theorem ents_off {z : Z} (h : z.e ≠ 0) : ∀ n, zents n z = ([], z)
  | 0 => rfl
  | n + 1 => by unfold zents; rw [if_pos h]
theorem Sim.cntN {z : Z} {s : RS} (h : Sim z s) (h4 : z.e ≠ 4) (most : Nat) : cntN most s = if (zcnt most z).e ≠ 0 then 0 else znum 1 z := by
  unfold Frm.cntN
  rw [(h.cnt h4 most).wrong, h.num 1 h4]
  by_cases g : (zcnt most z).e ≠ 0
  · rw [if_pos (decide_eq_true g), if_pos g]
  · rw [if_neg (by rw [decide_eq_false g]; decide), if_neg g]
theorem Sim.cmems {z : Z} {s : RS} (h : Sim z s) (h4 : z.e ≠ 4) (most : Nat) : Sim (zmems (znum 1 z) (zcnt most z)).2 (memsR (Frm.cntN most s) (cntS most s)).2 ∧ (zmems (znum 1 z) (zcnt most z)).1 = (memsR (Frm.cntN most s) (cntS most s)).1 := by
  have hc := h.cnt h4 most
  rw [h.cntN h4 most]
  by_cases g : (zcnt most z).e ≠ 0
  · rw [if_pos g, mems_off g]; exact ⟨hc, rfl⟩
  · rw [if_neg g]; exact Sim.mems _ hc
theorem Sim.cents {z : Z} {s : RS} (h : Sim z s) (h4 : z.e ≠ 4) (most : Nat) : Sim (zents (znum 1 z) (zcnt most z)).2 (entsR (Frm.cntN most s) (cntS most s)).2 ∧ (zents (znum 1 z) (zcnt most z)).1 = (entsR (Frm.cntN most s) (cntS most s)).1 := by
  have hc := h.cnt h4 most
  rw [h.cntN h4 most]
  by_cases g : (zcnt most z).e ≠ 0
  · rw [if_pos g, ents_off g]; exact ⟨hc, rfl⟩
  · rw [if_neg g]; exact Sim.ents _ hc
theorem zgos_off : ∀ (n : Nat) {z : Z}, z.e ≠ 0 → zgos n z = z
  | 0, _, _ => rfl
  | n + 1, z, h => by
    have e : zgo 1 z = z := by unfold zgo; rw [if_pos h]
    rw [zgos, e, zgos_off n h]
theorem zgos_on : ∀ (n : Nat) {z : Z}, z.e = 0 → z.a + n ≤ z.s.length → zgos n z = ⟨z.s, z.a + n, 0⟩
  | 0, z, h, _ => by cases z; simp only at h; subst h; rfl
  | n + 1, z, h, hl => by
    have e : zgo 1 z = ⟨z.s, z.a + 1, 0⟩ := by unfold zgo; rw [if_neg (fun g => g h), if_neg (by omega), h]
    rw [zgos, e, zgos_on n rfl (by show z.a + 1 + n ≤ z.s.length; omega)]
    show Z.mk z.s (z.a + 1 + n) 0 = _
    rw [show z.a + 1 + n = z.a + (n + 1) by omega]
theorem zgos_short : ∀ (n : Nat) {z : Z}, z.e = 0 → z.a ≤ z.s.length → z.s.length < z.a + n → (zgos n z).e = 2 ∧ (zgos n z).a ≤ (zgos n z).s.length
  | 0, z, _, ha, hl => by omega
  | n + 1, z, h, ha, hl => by
    by_cases g : z.s.length < z.a + 1
    · have e : zgo 1 z = ⟨z.s, z.a, 2⟩ := by unfold zgo; rw [if_neg (fun g => g h), if_pos g]
      rw [zgos, e, zgos_off n (show (2 : Int) ≠ 0 by decide)]; exact ⟨rfl, ha⟩
    · have e : zgo 1 z = ⟨z.s, z.a + 1, 0⟩ := by unfold zgo; rw [if_neg (fun g => g h), if_neg g, h]
      rw [zgos, e]
      exact zgos_short n rfl (by show z.a + 1 ≤ z.s.length; omega) (by show z.s.length < z.a + 1 + n; omega)
theorem getN_one (c : UInt8) : getN [c] = c.toNat := by simp [getN]
theorem Sim.view {z : Z} {s : RS} (h : Sim z s) (h4 : z.e ≠ 4) : Sim (zview z).2 (viewR s).2 ∧ ((zview z).2.e = 0 → (zview z).1 = (viewR s).1) := by
  have g1 := h.go 4
  have f1 := zgo_4 (k := 4) h4
  have q := g1.cmems f1 8
  have hn := h.num 4 h4
  have ha := q.1.1
  unfold zview viewR
  dsimp only
  rw [q.1.wrong]
  generalize zmems (znum 1 (zgo 4 z)) (zcnt 8 (zgo 4 z)) = p at *
  generalize memsR (Frm.cntN 8 (rgo 4 s)) (cntS 8 (rgo 4 s)) = p' at *
  by_cases g : p.2.e ≠ 0
  · rw [if_pos (decide_eq_true g), zgos_off 8 g]
    exact ⟨q.1, fun e => absurd e g⟩
  · rw [if_neg (by rw [decide_eq_false g]; decide)]
    have g : p.2.e = 0 := Classical.not_not.1 g
    rcases q.1.cases with ⟨h0, h1, h2, h3⟩ | ⟨h0, _⟩ | ⟨h0, _⟩
    · rw [h2, h3]
      by_cases hs : p.2.s.length < p.2.a + 8
      · have e1 := zgos_short 8 g ha hs
        have e2 : takeL (p.2.s.drop p.2.a) 0 0 (8 : Nat) = ([], p.2.s.drop p.2.a, 2) := take0_short _ _ (by rw [List.length_drop]; omega)
        have e2 : takeL (p.2.s.drop p.2.a) 0 0 8 = ([], p.2.s.drop p.2.a, 2) := e2
        refine ⟨.of2 e1.2 e1.1 h1 (by rw [e2]), fun e => ?_⟩
        rw [e1.1] at e; cases e
      · have e2 : takeL (p.2.s.drop p.2.a) 0 0 (8 : Nat) = ((p.2.s.drop p.2.a).take 8, (p.2.s.drop p.2.a).drop 8, 0) := take0_ok _ _ (by rw [List.length_drop]; omega)
        have e2 : takeL (p.2.s.drop p.2.a) 0 0 8 = ((p.2.s.drop p.2.a).take 8, (p.2.s.drop p.2.a).drop 8, 0) := e2
        have e8 := zgos_on 8 g (by omega)
        rw [e2]
        refine ⟨?_, fun _ => ?_⟩
        · show Sim (zgos 8 p.2) _
          rw [e8]
          exact .of0 (by show p.2.a + 8 ≤ p.2.s.length; omega) rfl h1 rfl (by show (p.2.s.drop p.2.a).drop 8 = _; rw [List.drop_drop])
        · rw [hn, q.2]
          have key : ∀ j, j < 8 → znum 1 (zgos j p.2) = ((((p.2.s.drop p.2.a).take 8).getD j 0).toNat) := fun j hj => by
            rw [zgos_on j g (by omega)]
            unfold znum
            rw [if_neg (show ¬ (0 : Int) ≠ 0 by decide), if_neg (by show ¬ p.2.s.length < p.2.a + j + 1; omega)]
            show getN ((p.2.s.drop (p.2.a + j)).take 1) = _
            have hlt : p.2.a + j < p.2.s.length := by omega
            rw [List.drop_eq_getElem_cons hlt, List.take_succ_cons, List.take_zero, getN_one]
            rw [List.getD_eq_getElem?_getD, List.getElem?_take_of_lt hj, List.getElem?_drop, List.getElem?_eq_getElem hlt]; rfl
          have : zlv p.2 = lvsOf ((p.2.s.drop p.2.a).take 8) := by
            unfold zlv lvsOf
            rw [← key 0 (by decide), ← key 1 (by decide), ← key 2 (by decide), ← key 3 (by decide), ← key 4 (by decide), ← key 5 (by decide), ← key 6 (by decide), ← key 7 (by decide)]; rfl
          rw [this]
    · rw [g] at h0; cases h0
    · rw [g] at h0; cases h0
theorem Sim.e4 {z : Z} {s : RS} (h : Sim z s) (g : z.e ≠ 0) (h4 : z.e ≠ 4) : z.e = 2 ∧ s.bad = false ∧ s.e = 2 := by
  rcases h.cases with ⟨h0, _⟩ | h0 | ⟨h0, _⟩
  · exact absurd h0 g
  · exact h0
  · exact absurd h0 h4
theorem Sim.val {z : Z} {s : RS} (h : Sim z s) (h0 : z.e = 0) (x0 : List UInt8) : Sim (zval x0 z).2 (valR s).2 ∧ ((zval x0 z).2.e = 0 → (zval x0 z).1 = (valR s).1) := by
  have hb := h.bit (by rw [h0]; decide)
  have hw := hb.1.wrong
  unfold valR
  rw [hw]
  by_cases g : (zbitZ z).e ≠ 0
  · rw [if_pos (decide_eq_true g)]
    have e : zvz z = zbitZ z := by unfold zvz zgo; rw [if_pos g]
    unfold zval
    rw [e, if_pos g]
    exact ⟨hb.1, fun e => absurd e g⟩
  · rw [if_neg (by rw [decide_eq_false g]; decide)]
    have g : (zbitZ z).e = 0 := Classical.not_not.1 g
    rw [← hb.2]
    unfold zval zvn
    generalize zbitB z = b at *
    obtain ⟨hb1, _⟩ := hb
    have ha := hb1.1
    rcases hb1.cases with ⟨_, h1, h2, h3⟩ | ⟨h0, _⟩ | ⟨h0, _⟩
    · have hvz : zvz z = zgo 1 (zbitZ z) := rfl
      rw [hvz]
      generalize zbitZ z = y at *
      generalize flagS s = t at *
      by_cases hs : y.s.length < y.a + 1
      · have e : zgo 1 y = ⟨y.s, y.a, 2⟩ := by unfold zgo; rw [if_neg (fun k => k g), if_pos hs]
        have hd : y.s.drop y.a = [] := List.drop_eq_nil_of_le (by omega)
        rw [e, if_pos (show (2 : Int) ≠ 0 by decide)]
        have ex : txtS t = ⟨t.l, 2, t.bad⟩ := by unfold txtS; rw [h3, hd, h2]; rfl
        refine ⟨?_, fun e => by cases e⟩
        refine Sim.of2 ha rfl ?_ ?_
        · show (Frm.must _ (txtS t)).bad = false
          rw [ex]; unfold Frm.must; rw [if_neg (fun k => k.2 rfl)]; exact h1
        · show (Frm.must _ (txtS t)).e = 2
          rw [ex]; unfold Frm.must; rw [if_neg (fun k => k.2 rfl)]
      · have hlt : y.a < y.s.length := by omega
        have e : zgo 1 y = ⟨y.s, y.a + 1, 0⟩ := by unfold zgo; rw [if_neg (fun k => k g), if_neg hs, g]
        have hd : y.s.drop y.a = y.s[y.a] :: y.s.drop (y.a + 1) := List.drop_eq_getElem_cons hlt
        have hn : znum 1 y = (y.s[y.a]).toNat := by
          unfold znum; rw [if_neg (fun k => k g), if_neg hs, hd, List.take_succ_cons, List.take_zero, getN_one]
        rw [e, hn, if_neg (show ¬ (0 : Int) ≠ 0 by decide)]
        generalize hc : y.s[y.a] = c at *
        have hl : t.l = c :: y.s.drop (y.a + 1) := by rw [h3, hd]
        have htn : txtN t.l = (1, c.toNat) := by rw [hl]; rfl
        by_cases hs2 : y.s.length < y.a + 1 + c.toNat
        · have et : takeL t.l 0 1 c.toNat = ([], t.l, 2) := by
            unfold takeL; rw [if_neg (by decide), if_neg (by omega), if_pos (by rw [hl, List.length_cons, List.length_drop]; omega)]
          have ex : txtS t = ⟨t.l, 2, t.bad⟩ := by
            unfold txtS; rw [htn, h2]; show RS.mk (takeL t.l 0 ((1 : Nat) : Int) c.toNat).2.1 (takeL t.l 0 ((1 : Nat) : Int) c.toNat).2.2 t.bad = _
            rw [show takeL t.l 0 ((1 : Nat) : Int) c.toNat = ([], t.l, 2) from et]
          rw [if_pos hs2]
          refine ⟨?_, fun e => by cases e⟩
          refine Sim.of2 (by show y.a + 1 ≤ y.s.length; omega) rfl ?_ ?_
          · show (Frm.must _ (txtS t)).bad = false
            rw [ex]; unfold Frm.must; rw [if_neg (fun k => k.2 rfl)]; exact h1
          · show (Frm.must _ (txtS t)).e = 2
            rw [ex]; unfold Frm.must; rw [if_neg (fun k => k.2 rfl)]
        · have et : takeL t.l 0 1 c.toNat = ((t.l.take (1 + c.toNat)).drop 1, t.l.drop (1 + c.toNat), 0) := by
            unfold takeL; rw [if_neg (by decide), if_neg (by omega), if_neg (by rw [hl, List.length_cons, List.length_drop]; omega)]
            rw [show ((1 : Int) + (c.toNat : Int)).toNat = 1 + c.toNat by omega]; rfl
          have et : takeL t.l 0 ((1 : Nat) : Int) c.toNat = ((t.l.take (1 + c.toNat)).drop 1, t.l.drop (1 + c.toNat), 0) := et
          have hx : (y.s.take (y.a + 1 + c.toNat)).drop (y.a + 1) = (y.s.drop (y.a + 1)).take c.toNat := by
            rw [List.drop_take]; congr 1; omega
          have ex1 : txtX t = (y.s.take (y.a + 1 + c.toNat)).drop (y.a + 1) := by
            unfold txtX; rw [htn, h2]
            show (takeL t.l 0 ((1 : Nat) : Int) c.toNat).1 = _
            rw [et, hl, hx, Nat.add_comm 1, List.take_succ_cons]; rfl
          have ex2 : txtS t = ⟨y.s.drop (y.a + 1 + c.toNat), 0, t.bad⟩ := by
            unfold txtS; rw [htn, h2]
            show RS.mk (takeL t.l 0 ((1 : Nat) : Int) c.toNat).2.1 (takeL t.l 0 ((1 : Nat) : Int) c.toNat).2.2 t.bad = _
            rw [et, hl, Nat.add_comm 1]
            show RS.mk ((y.s.drop (y.a + 1)).drop c.toNat) 0 t.bad = _
            rw [List.drop_drop]
          rw [if_neg hs2, ex1, ex2]
          have hlen : ((y.s.take (y.a + 1 + c.toNat)).drop (y.a + 1)).length = c.toNat := by
            rw [hx, List.length_take, List.length_drop]; omega
          have hnil : ((y.s.take (y.a + 1 + c.toNat)).drop (y.a + 1) = []) ↔ c.toNat = 0 := by
            rw [← List.length_eq_zero_iff, hlen]
          have hs0 : Sim ⟨y.s, y.a + 1 + c.toNat, 0⟩ ⟨y.s.drop (y.a + 1 + c.toNat), 0, t.bad⟩ := .of0 (by show y.a + 1 + c.toNat ≤ y.s.length; omega) rfl h1 rfl rfl
          refine ⟨hs0.must fun _ => ?_, fun _ => rfl⟩
          unfold valOk
          rw [hlen]
          congr 2
          rw [Bool.eq_iff_iff, decide_eq_true_eq, decide_eq_true_eq]
          exact hnil.symm
    · rw [g] at h0; cases h0
    · rw [g] at h0; cases h0
theorem Sim.fld {z : Z} {s : RS} (h : Sim z s) (h0 : z.e = 0) (c : Nat) (f : Fm) : Sim (zfld c z f).2 (fldR c s f).2 ∧ ((zfld c z f).2.e = 0 → (zfld c z f).1 = (fldR c s f).1) := by
  have h4 : z.e ≠ 4 := by rw [h0]; decide
  have n1 := h.num 1 h4
  have n4 := h.num 4 h4
  have g4 := h.go 4
  have f4 := zgo_4 (k := 4) h4
  have g41 := g4.go 1
  have f41 := zgo_4 (k := 1) f4
  have m1 := g4.num 1 f4
  have m2 := g41.num 1 f41
  have hb := h.bit h4
  have hc := h.cmd h4
  have hv := h.val h0 f.x
  have hw := h.view h4
  have he := h.cents h4 16
  unfold zfld fldR
  by_cases g : c = 101
  · rw [if_pos g, if_pos g]; exact ⟨g4, fun _ => by rw [n4]⟩
  rw [if_neg g, if_neg g]; clear g
  by_cases g : c = 107
  · rw [if_pos g, if_pos g]
    refine ⟨?_, fun _ => by rw [n1]⟩
    show Sim (zmust (decide (znum 1 z < 6)) (zgo 1 z)) (Frm.must (decide (rnum 1 s < 6)) (rgo 1 s))
    rw [n1]; exact (h.go 1).must fun _ => rfl
  rw [if_neg g, if_neg g]; clear g
  by_cases g : c = 115
  · rw [if_pos g, if_pos g]; exact ⟨g41.go 1, fun _ => by rw [n4, m1, m2]; rfl⟩
  rw [if_neg g, if_neg g]; clear g
  by_cases g : c = 118
  · rw [if_pos g, if_pos g]; exact ⟨hv.1, fun e => by rw [hv.2 e]⟩
  rw [if_neg g, if_neg g]; clear g
  by_cases g : c = 114
  · rw [if_pos g, if_pos g]; exact ⟨hb.1, fun _ => by rw [hb.2]⟩
  rw [if_neg g, if_neg g]; clear g
  by_cases g : c = 102
  · rw [if_pos g, if_pos g]; exact ⟨hb.1, fun _ => by rw [hb.2]⟩
  rw [if_neg g, if_neg g]; clear g
  by_cases g : c = 100
  · rw [if_pos g, if_pos g]; exact ⟨h.go 1, fun _ => by rw [n1]⟩
  rw [if_neg g, if_neg g]; clear g
  by_cases g : c = 108
  · rw [if_pos g, if_pos g]; exact ⟨h.go 1, fun _ => by rw [n1]⟩
  rw [if_neg g, if_neg g]; clear g
  by_cases g : c = 113
  · rw [if_pos g, if_pos g]; exact ⟨g4, fun _ => by rw [n4]⟩
  rw [if_neg g, if_neg g]; clear g
  by_cases g : c = 98
  · rw [if_pos g, if_pos g]; exact ⟨g41, fun _ => by rw [n4, m1]⟩
  rw [if_neg g, if_neg g]; clear g
  by_cases g : c = 110
  · rw [if_pos g, if_pos g]; exact ⟨g4, fun _ => by rw [n4]⟩
  rw [if_neg g, if_neg g]; clear g
  by_cases g : c = 99
  · rw [if_pos g, if_pos g]; exact ⟨hc.1, fun _ => by rw [hc.2]⟩
  rw [if_neg g, if_neg g]; clear g
  by_cases g : c = 119
  · rw [if_pos g, if_pos g]; exact ⟨hw.1, fun e => by rw [hw.2 e]⟩
  rw [if_neg g, if_neg g]
  exact ⟨he.1, fun _ => by rw [he.2]⟩
theorem zmems_e : ∀ (n : Nat) {z : Z}, (zmems n z).2.e = 0 → z.e = 0
  | 0, _, h => h
  | n + 1, z, h => by
    unfold zmems at h
    split at h
    · exact h
    · exact Classical.not_not.1 ‹_›
theorem Sim.flds : ∀ (cs : List Nat) {z : Z} {s : RS} (f f' : Fm), Sim z s → (z.e = 0 → f = f') → Sim (zflds cs z f).2 (fldsR cs s f').2 ∧ ((zflds cs z f).2.e = 0 → (zflds cs z f).1 = (fldsR cs s f').1)
  | [], _, _, _, _, h, e => ⟨h, e⟩
  | c :: cs, z, s, f, f', h, e => by
    have hw := h.wrong
    unfold zflds fldsR
    by_cases h0 : z.e = 0
    · rw [if_neg (fun g => g h0), if_neg (by rw [hw, h0]; decide)]
      obtain rfl := e h0
      have hf := h.fld h0 c f
      exact Sim.flds cs _ _ hf.1 hf.2
    · rw [if_pos h0, if_pos (by rw [hw, decide_eq_true h0])]
      exact ⟨h, fun g => absurd g h0⟩
theorem lets_kind (k : Nat) : decide (lets k ≠ []) = hasKind k := by
  unfold hasKind lets
  rcases Nat.lt_or_ge k 17 with h | h
  · have : k = 0 ∨ k = 1 ∨ k = 2 ∨ k = 3 ∨ k = 4 ∨ k = 5 ∨ k = 6 ∨ k = 7 ∨ k = 8 ∨ k = 9 ∨ k = 10 ∨ k = 11 ∨ k = 12 ∨ k = 13 ∨ k = 14 ∨ k = 15 ∨ k = 16 := by omega
    rcases this with rfl | rfl | rfl | rfl | rfl | rfl | rfl | rfl | rfl | rfl | rfl | rfl | rfl | rfl | rfl | rfl | rfl <;> rfl
  · rw [List.getD_eq_getElem?_getD, List.getElem?_eq_none (by simpa [fields] using h)]
    rw [decide_eq_false (fun g => g rfl), decide_eq_false (by omega)]
theorem letsK_lets (k : Nat) : letsK k = lets k := by
  unfold letsK
  rw [← lets_kind]
  by_cases h : lets k = []
  · rw [if_neg (by rw [h]; decide), h]
  · rw [if_pos (decide_eq_true h)]
/-- both readers tell the same -/
theorem zdec_eq (l : List UInt8) : zdecB l = decB l := by
  have h : Sim ⟨l, 0, 0⟩ ⟨l, 0, false⟩ := .of0 (Nat.zero_le _) rfl rfl rfl rfl
  have f0 : (Z.mk l 0 0).e ≠ 4 := show (0 : Int) ≠ 4 by decide
  have h1 := h.go 1
  have f1 := zgo_4 (k := 1) f0
  have h2 := h1.go 1
  have f2 := zgo_4 (k := 1) f1
  have h3 := h2.go 1
  have ehd : zhd l = hdF l := by unfold zhd hdF; rw [h.num 1 f0, h1.num 1 f1, h2.num 1 f2]
  have hS : Sim (zhdZ l) (hdS l) := by
    unfold zhdZ hdS
    rw [ehd, lets_kind]
    exact h3.must fun _ => rfl
  have hB := Sim.flds (lets (zhd l).kind) (zhd l) (hdF l) hS fun _ => ehd
  unfold zdecB decB zfin zbody bodyR
  rw [letsK_lets]
  rw [ehd] at hB ⊢
  generalize zflds (lets (hdF l).kind) (zhdZ l) (hdF l) = p at *
  generalize fldsR (lets (hdF l).kind) (hdS l) (hdF l) = q at *
  obtain ⟨hB, hE⟩ := hB
  unfold zend endE
  rcases hB.cases with ⟨h0, h1, h2, h3⟩ | ⟨h0, h1, h2⟩ | ⟨h0, h1⟩
  · rw [if_neg (show ¬ q.2.bad = true by rw [h1]; decide), h2, if_neg (show ¬ (0 : Int) ≠ 0 by decide), h0]
    have hi : (p.2.s.drop p.2.a ≠ []) ↔ p.2.a < p.2.s.length := by
      rw [ne_eq, List.drop_eq_nil_iff]; omega
    by_cases g : p.2.a < p.2.s.length
    · rw [show (if (0 : Int) = 0 ∧ p.2.a < p.2.s.length then (3 : Int) else 0) = 3 from if_pos ⟨rfl, g⟩, show (if q.2.l ≠ [] then (3 : Int) else 0) = 3 from if_pos (by rw [h3]; exact hi.2 g)]; rfl
    · rw [show (if (0 : Int) = 0 ∧ p.2.a < p.2.s.length then (3 : Int) else 0) = 0 from if_neg (fun k => g k.2), show (if q.2.l ≠ [] then (3 : Int) else 0) = 0 from if_neg (by rw [h3]; exact fun k => g (hi.1 k)), hE h0]
  · rw [if_neg (show ¬ q.2.bad = true by rw [h1]; decide), h2, if_pos (show (2 : Int) ≠ 0 by decide), h0]; rfl
  · rw [if_pos h1, h0]; rfl
end Go.Proofs.YtaepgceodcdnhaaDoor.Frm
/- Frames by the engine: the document's bytes of a field. -/
namespace Go.Proofs.YtaepgceodcdnhaaDoor.Vm
open Go Go.RowKit
set_option maxRecDepth 100000
namespace X6
open Frm (num text raw one Cmd Mem Ent Lvs Fm lets fields)
open Oct (be)
theorem rfields_in (k : Nat) (h : k < 17) (Q : T → Obs → Glb → Prop) (hQ : ∀ x, x = str (letS (lets k)) → Q x [] none_) : TCalls Tryd.prog 32 [u8 k] [] none_ Q := by
  have hf := fixF_at k h
  rw [Nat.mul_one, Nat.zero_add, List.getElem?_drop] at hf
  have hw : T.v (.int .i64 (IntKind.wrap .i64 (k : Int))) = int k := congrArg int (wrap_i64 (by omega) (by omega))
  generalize letS (lets k) = z at *
  refine TCalls.of Tryd.func32 rfl (CanCall.of Tryd.func32 rfl (by decide)) [] fun Γ => ?_
  refine run_sound (⟨fun | 2, 1 => .res (int k) | 4, 2 => .res (str z) | _, _ => .no, [], fun  | _ => none⟩) 400 (B := int (IntKind.wrap IntKind.i64 (↑k : Int)) = int k ∧ bsplit (decide ((↑k : Int) ≥ (↑(17 : Nat) : Int))) (Q (str []) [] fun x => none) ((0 : Int) ≤ (↑k : Int) ∧ [str [], T.v (Value.string (ByteArray.mk (#[(101 : UInt8), (107 : UInt8), (115 : UInt8), (118 : UInt8), (114 : UInt8), (100 : UInt8)]))), T.v (Value.string (ByteArray.mk (#[(101 : UInt8), (107 : UInt8), (115 : UInt8), (102 : UInt8)]))), T.v (Value.string (ByteArray.mk (#[(101 : UInt8), (107 : UInt8), (115 : UInt8)]))), T.v (Value.string (ByteArray.mk (#[(101 : UInt8), (107 : UInt8)]))), T.v (Value.string (ByteArray.mk (#[(101 : UInt8), (107 : UInt8), (115 : UInt8), (118 : UInt8), (114 : UInt8), (102 : UInt8)]))), T.v (Value.string (ByteArray.mk (#[(101 : UInt8), (108 : UInt8), (113 : UInt8), (102 : UInt8)]))), T.v (Value.string (ByteArray.mk (#[(119 : UInt8)]))), T.v (Value.string (ByteArray.mk (#[(101 : UInt8), (108 : UInt8), (113 : UInt8)]))), T.v (Value.string (ByteArray.mk (#[(98 : UInt8), (110 : UInt8)]))), T.v (Value.string (ByteArray.mk (#[(98 : UInt8), (110 : UInt8), (116 : UInt8)]))), T.v (Value.string (ByteArray.mk (#[(98 : UInt8)]))), T.v (Value.string (ByteArray.mk (#[(98 : UInt8), (110 : UInt8), (99 : UInt8)]))), T.v (Value.string (ByteArray.mk (#[(98 : UInt8), (110 : UInt8)]))), T.v (Value.string (ByteArray.mk (#[(110 : UInt8), (99 : UInt8)]))), T.v (Value.string (ByteArray.mk (#[(110 : UInt8), (102 : UInt8)]))), T.v (Value.string (ByteArray.mk (#[(110 : UInt8), (119 : UInt8)])))][Int.toNat (↑k : Int)]? = some (str z) ∧ Q (str z) [] fun x => none)) (by kernel_rfl) ?_
  repeat' (first | exact rfl | exact Nat.le_of_ble_eq_true rfl | refine And.intro ?_ ?_ | intro _ | refine bsplit_mk (fun _ => ?_) (fun _ => ?_))
  all_goals first
    | exact hw
    | exact hf
    | exact hQ _ rfl
    | exact Int.natCast_nonneg _
    | (exfalso; simp only [decide_eq_true_eq, decide_eq_false_iff_not] at *; omega)
    | (simp only [decide_eq_true_eq, decide_eq_false_iff_not] at *; omega)
    | trace_state
theorem rfields_out (k : Nat) (hk : k < 256) (h : ¬ k < 17) (Q : T → Obs → Glb → Prop) (hQ : ∀ x, x = str [] → Q x [] none_) : TCalls Tryd.prog 32 [u8 k] [] none_ Q := by
  have hw : T.v (.int .i64 (IntKind.wrap .i64 (k : Int))) = int k := congrArg int (wrap_i64 (by omega) (by omega))
  refine TCalls.of Tryd.func32 rfl (CanCall.of Tryd.func32 rfl (by decide)) [] fun Γ => ?_
  refine run_sound (⟨fun | 2, 1 => .res (int k) | 4, 2 => .res (str []) | _, _ => .no, [((0, 4), ([0, 3], 0))], fun  | _ => none⟩) 400 (B := int (IntKind.wrap IntKind.i64 (↑k : Int)) = int k ∧ bsplit (decide ((↑k : Int) ≥ (↑(17 : Nat) : Int))) (Q (str []) [] fun x => none) (TWk Tryd.prog Γ (fin Tryd.prog Tryd.f32 [] Q) [It.code (sub (bd Tryd.f32) [1, 1, 1])] { fr := frame 14 [(0, u8 k), (3, T.sl 1 [str [], T.v (Value.string (ByteArray.mk (#[(101 : UInt8), (107 : UInt8), (115 : UInt8), (118 : UInt8), (114 : UInt8), (100 : UInt8)]))), T.v (Value.string (ByteArray.mk (#[(101 : UInt8), (107 : UInt8), (115 : UInt8), (102 : UInt8)]))), T.v (Value.string (ByteArray.mk (#[(101 : UInt8), (107 : UInt8), (115 : UInt8)]))), T.v (Value.string (ByteArray.mk (#[(101 : UInt8), (107 : UInt8)]))), T.v (Value.string (ByteArray.mk (#[(101 : UInt8), (107 : UInt8), (115 : UInt8), (118 : UInt8), (114 : UInt8), (102 : UInt8)]))), T.v (Value.string (ByteArray.mk (#[(101 : UInt8), (108 : UInt8), (113 : UInt8), (102 : UInt8)]))), T.v (Value.string (ByteArray.mk (#[(119 : UInt8)]))), T.v (Value.string (ByteArray.mk (#[(101 : UInt8), (108 : UInt8), (113 : UInt8)]))), T.v (Value.string (ByteArray.mk (#[(98 : UInt8), (110 : UInt8)]))), T.v (Value.string (ByteArray.mk (#[(98 : UInt8), (110 : UInt8), (116 : UInt8)]))), T.v (Value.string (ByteArray.mk (#[(98 : UInt8)]))), T.v (Value.string (ByteArray.mk (#[(98 : UInt8), (110 : UInt8), (99 : UInt8)]))), T.v (Value.string (ByteArray.mk (#[(98 : UInt8), (110 : UInt8)]))), T.v (Value.string (ByteArray.mk (#[(110 : UInt8), (99 : UInt8)]))), T.v (Value.string (ByteArray.mk (#[(110 : UInt8), (102 : UInt8)]))), T.v (Value.string (ByteArray.mk (#[(110 : UInt8), (119 : UInt8)])))])], ob := [], gl := fun x => none })) (by kernel_rfl) ?_
  repeat' (first | exact rfl | exact Nat.le_of_ble_eq_true rfl | refine And.intro ?_ ?_ | intro _ | refine bsplit_mk (fun _ => ?_) (fun _ => ?_))
  all_goals first
    | exact hw
    | exact hQ _ rfl
    | (exfalso; simp only [decide_eq_true_eq, decide_eq_false_iff_not] at *; omega)
    | trace_state
theorem rfields_post (k : Nat) (hk : k < 256) : TCalls Tryd.prog 32 [u8 k] [] none_ (callPost (told (str (letS (lets k))) [] [])) := by
  by_cases h : k < 17
  · exact rfields_in k h _ fun x e => told_post e
  · have e : lets k = [] := lets_off k (by omega)
    rw [e]
    exact rfields_out k hk h _ fun x e => told_post e
theorem rone_post (n : Nat) (hn : n < 256) : TCalls Tryd.prog 33 [u8 n] [] none_ (callPost (told (str (be 1 n)) [] [])) := by
  have hw : T.v (.int .u64 (IntKind.wrap .u64 (n : Int))) = u64 n := congrArg u64 (IntWalk.u64_in _ (by omega))
  have hQ : ∀ x, x = str (be 1 n) → callPost (told (str (be 1 n)) [] []) x [] none_ := fun x h => told_post h
  generalize callPost (told (str (be 1 n)) [] []) = Q at *
  have hr : TCalls Tryd.prog 66 [u64 n, int 1] [] none_ (callPost (told (str (be 1 n)) [] [])) := X1.rnum_any n 1 (by decide) (by omega) _ (fun x h => told_post h)
  generalize be 1 n = b at *
  refine TCalls.of Tryd.func33 rfl (CanCall.of Tryd.func33 rfl (by decide)) [] fun Γ => ?_
  refine run_sound (⟨fun | 1, 1 => .res (u64 n) | 1, 2 => told (str b) [] [] | _, _ => .no, [], fun  | _ => none⟩) 400 (B := u64 (IntKind.wrap IntKind.u64 (↑n : Int)) = u64 n ∧ TCalls Tryd.prog 66 [u64 n, int (1 : Int)] [] (fun x => none) (callPost (Hint.call false Unit (fun x => True) [] false (fun x => str b) (fun x => []) fun x => none_)) ∧ ∀ (a : Unit), True → Q (T.v (Value.string (ByteArray.mk (List.toArray b)))) [] fun x => none) (by kernel_rfl) ?_
  repeat' (first | exact rfl | exact Nat.le_of_ble_eq_true rfl | refine And.intro ?_ ?_ | intro _ | refine bsplit_mk (fun _ => ?_) (fun _ => ?_))
  all_goals first
    | exact hw
    | exact hr
    | exact hQ _ rfl
    | trace_state
theorem rfour_post (n : Nat) (hn : n < 4294967296) : TCalls Tryd.prog 34 [u32 n] [] none_ (callPost (told (str (be 4 n)) [] [])) := by
  have hw : T.v (.int .u64 (IntKind.wrap .u64 (n : Int))) = u64 n := congrArg u64 (IntWalk.u64_in _ (by omega))
  have hQ : ∀ x, x = str (be 4 n) → callPost (told (str (be 4 n)) [] []) x [] none_ := fun x h => told_post h
  generalize callPost (told (str (be 4 n)) [] []) = Q at *
  have hr : TCalls Tryd.prog 66 [u64 n, int 4] [] none_ (callPost (told (str (be 4 n)) [] [])) := X1.rnum_any n 4 (by decide) (by omega) _ (fun x h => told_post h)
  generalize be 4 n = b at *
  refine TCalls.of Tryd.func34 rfl (CanCall.of Tryd.func34 rfl (by decide)) [] fun Γ => ?_
  refine run_sound (⟨fun | 1, 1 => .res (u64 n) | 1, 2 => told (str b) [] [] | _, _ => .no, [], fun  | _ => none⟩) 400 (B := u64 (IntKind.wrap IntKind.u64 (↑n : Int)) = u64 n ∧ TCalls Tryd.prog 66 [u64 n, int (4 : Int)] [] (fun x => none) (callPost (Hint.call false Unit (fun x => True) [] false (fun x => str b) (fun x => []) fun x => none_)) ∧ ∀ (a : Unit), True → Q (T.v (Value.string (ByteArray.mk (List.toArray b)))) [] fun x => none) (by kernel_rfl) ?_
  repeat' (first | exact rfl | exact Nat.le_of_ble_eq_true rfl | refine And.intro ?_ ?_ | intro _ | refine bsplit_mk (fun _ => ?_) (fun _ => ?_))
  all_goals first
    | exact hw
    | exact hr
    | exact hQ _ rfl
    | trace_state
theorem rflag_post (b : Bool) : TCalls Tryd.prog 35 [bool b] [] none_ (callPost (told (str (be 1 (one b))) [] [])) := by
  have hQ : ∀ x, x = str (be 1 (one b)) → callPost (told (str (be 1 (one b))) [] []) x [] none_ := fun x h => told_post h
  generalize callPost (told (str (be 1 (one b))) [] []) = Q at *
  cases b with
  | true =>
    refine TCalls.of Tryd.func35 rfl (CanCall.of Tryd.func35 rfl (by decide)) [] fun Γ => ?_
    refine run_sound (⟨fun _ _ => .no, [], fun _ => none⟩) 400 (B := Q (T.v (Value.string (ByteArray.mk (#[(1 : UInt8)])))) [] fun x => none) (by kernel_rfl) ?_
    repeat' (first | exact rfl | exact Nat.le_of_ble_eq_true rfl | refine And.intro ?_ ?_ | intro _ | refine bsplit_mk (fun _ => ?_) (fun _ => ?_))
    all_goals first
      | exact hQ _ rfl
      | trace_state
  | false =>
    refine TCalls.of Tryd.func35 rfl (CanCall.of Tryd.func35 rfl (by decide)) [] fun Γ => ?_
    refine run_sound (⟨fun _ _ => .no, [], fun _ => none⟩) 400 (B := Q (T.v (Value.string (ByteArray.mk (#[(0 : UInt8)])))) [] fun x => none) (by kernel_rfl) ?_
    repeat' (first | exact rfl | exact Nat.le_of_ble_eq_true rfl | refine And.intro ?_ ?_ | intro _ | refine bsplit_mk (fun _ => ?_) (fun _ => ?_))
    all_goals first
      | exact hQ _ rfl
      | trace_state
theorem catL (a b : List UInt8) : T.v (.string (⟨a.toArray⟩ ++ ⟨b.toArray⟩)) = str (a ++ b) := congrArg T.v (str_cat a b)
theorem rcmd_post (c : Cmd) (hc : c.Ok) : TCalls Tryd.prog 36 [.agg (cmdC c)] [] none_ (callPost (told (str c.bs) [] [])) := by
  have hQ : ∀ x, x = str ((((be 1 c.k ++ be 1 c.n) ++ be 1 c.l) ++ be 4 c.e) ++ be 4 c.q) → callPost (told (str c.bs) [] []) x [] none_ := fun x h => told_post (by rw [h]; unfold Frm.Cmd.bs; simp only [List.append_assoc])
  generalize callPost (told (str c.bs) [] []) = Q at *
  have s1 := rone_post c.k hc.k
  have s2 := rone_post c.n hc.n
  have s3 := rone_post c.l hc.l
  have s4 := rfour_post c.e hc.e
  have s5 := rfour_post c.q hc.q
  have l1 := Oct.length_be 1 c.k
  have l2 := Oct.length_be 1 c.n
  have l3 := Oct.length_be 1 c.l
  have l4 := Oct.length_be 4 c.e
  have l5 := Oct.length_be 4 c.q
  generalize be 1 c.k = x1 at *
  generalize be 1 c.n = x2 at *
  generalize be 1 c.l = x3 at *
  generalize be 4 c.e = x4 at *
  generalize be 4 c.q = x5 at *
  refine TCalls.of Tryd.func36 rfl (CanCall.of Tryd.func36 rfl (by decide)) [] fun Γ => ?_
  refine run_sound (⟨fun | 1, 2 => told (str x1) [] [] | 1, 5 => told (str x2) [] [] | 1, 6 => .res (str (x1 ++ x2)) | 1, 9 => told (str x3) [] [] | 1, 10 => .res (str ((x1 ++ x2) ++ x3)) | 1, 13 => told (str x4) [] [] | 1, 14 => .res (str (((x1 ++ x2) ++ x3) ++ x4)) | 1, 17 => told (str x5) [] [] | 1, 18 => .res (str ((((x1 ++ x2) ++ x3) ++ x4) ++ x5)) | _, _ => .no, [], fun | 1 => some ⟨[0], [17], .take true [0,1,3,4,7,8,11,12,15,16] (.one 2 (.one 5 (.take false [6] (.one 9 (.take false [10] (.one 13 (.take false [14] (.one 17 (.take false [18,19] .done)))))))))⟩ | _ => none⟩) 400 (B := ∀ (b : Nat), b = b ∧ b = b ∧ b = b ∧ b = b ∧ b = b ∧ TCalls Tryd.prog 33 [u8 (Cmd.k c)] [] none_ (callPost (Hint.call false Unit (fun x => True) [] false (fun x => str x1) (fun x => []) fun x => none_)) ∧ ∀ (a : Unit), True → TCalls Tryd.prog 33 [u8 (Cmd.n c)] [] none_ (callPost (Hint.call false Unit (fun x => True) [] false (fun x => str x2) (fun x => []) fun x => none_)) ∧ ∀ (a : Unit), True → ByteArray.size (ByteArray.mk (List.toArray x1)) + ByteArray.size (ByteArray.mk (List.toArray x2)) ≤ 9223372036854775807 ∧ some (T.v (Value.string ((ByteArray.mk (List.toArray x1)) ++ (ByteArray.mk (List.toArray x2))))) = some (str (x1 ++ x2)) ∧ TCalls Tryd.prog 33 [u8 (Cmd.l c)] [] none_ (callPost (Hint.call false Unit (fun x => True) [] false (fun x => str x3) (fun x => []) fun x => none_)) ∧ ∀ (a : Unit), True → ByteArray.size (ByteArray.mk (List.toArray (x1 ++ x2))) + ByteArray.size (ByteArray.mk (List.toArray x3)) ≤ 9223372036854775807 ∧ some (T.v (Value.string ((ByteArray.mk (List.toArray (x1 ++ x2))) ++ (ByteArray.mk (List.toArray x3))))) = some (str (x1 ++ x2 ++ x3)) ∧ TCalls Tryd.prog 34 [u32 (Cmd.e c)] [] none_ (callPost (Hint.call false Unit (fun x => True) [] false (fun x => str x4) (fun x => []) fun x => none_)) ∧ ∀ (a : Unit), True → ByteArray.size (ByteArray.mk (List.toArray (x1 ++ x2 ++ x3))) + ByteArray.size (ByteArray.mk (List.toArray x4)) ≤ 9223372036854775807 ∧ some (T.v (Value.string ((ByteArray.mk (List.toArray (x1 ++ x2 ++ x3))) ++ (ByteArray.mk (List.toArray x4))))) = some (str (x1 ++ x2 ++ x3 ++ x4)) ∧ TCalls Tryd.prog 34 [u32 (Cmd.q c)] [] none_ (callPost (Hint.call false Unit (fun x => True) [] false (fun x => str x5) (fun x => []) fun x => none_)) ∧ ∀ (a : Unit), True → ByteArray.size (ByteArray.mk (List.toArray (x1 ++ x2 ++ x3 ++ x4))) + ByteArray.size (ByteArray.mk (List.toArray x5)) ≤ 9223372036854775807 ∧ some (T.v (Value.string ((ByteArray.mk (List.toArray (x1 ++ x2 ++ x3 ++ x4))) ++ (ByteArray.mk (List.toArray x5))))) = some (str (x1 ++ x2 ++ x3 ++ x4 ++ x5)) ∧ Q (str (x1 ++ x2 ++ x3 ++ x4 ++ x5)) [] fun x => none) (by kernel_rfl) ?_
  repeat' (first | exact rfl | exact Nat.le_of_ble_eq_true rfl | refine And.intro ?_ ?_ | intro _ | refine bsplit_mk (fun _ => ?_) (fun _ => ?_))
  all_goals first
    | exact s1
    | exact s2
    | exact s3
    | exact s4
    | exact s5
    | exact hQ _ rfl
    | exact catL _ _
    | exact cat_ok _ _ (by first | omega | (simp only [List.length_append]; omega))
    | trace_state
end X6
end Go.Proofs.YtaepgceodcdnhaaDoor.Vm
/- Frames by the engine: the document's Encode. -/
namespace Go.Proofs.YtaepgceodcdnhaaDoor.Vm
open Go Go.RowKit
set_option maxRecDepth 100000
namespace X6
def ptFQ1 : List Nat := [1, 1, 1, 1, 0, 1, 0, 0, 1, 0, 0, 1, 0, 1, 1, 1, 1, 1, 1, 1, 1, 1, 1, 1, 1, 1, 1, 1, 1, 1, 1, 1, 1, 1, 1, 1, 1, 1, 0, 1, 1, 1]
open Frm (num text raw one Cmd Mem Ent Lvs Fm lets fields)
open Oct (be length_be)
/-- the letter at a place -/
def ZAt (z : ByteArray) (n c : Nat) : Prop := (z[((n : Nat) : Int).toNat]?).map (fun c : UInt8 => T.v (.int .u8 c.toNat)) = some (u8 c)
theorem w8 {n : Nat} (h : n < 256) : T.v (.int .u8 (IntKind.wrap .u8 (n : Int))) = u8 n := congrArg u8 (IntWalk.u8_in _ (by omega))
theorem n1T {n : Nat} (h : n ≤ 1000) : T.v (.int .i64 (IntKind.wrap .i64 ((n : Int) + 1))) = int (n + 1 : Nat) := congrArg int (by rw [wrap_i64 (by omega) (by omega)]; omega)
theorem be1 (n : Nat) : be 1 n = [UInt8.ofNat n] := by simp [be]
def lvAt (l : Lvs) : Nat → Nat
  | 0 => l.l0
  | 1 => l.l1
  | 2 => l.l2
  | 3 => l.l3
  | 4 => l.l4
  | 5 => l.l5
  | 6 => l.l6
  | _ => l.l7
theorem lvAt_lt {l : Lvs} (h : l.Ok) (j : Nat) : lvAt l j < 256 := by
  unfold lvAt
  split
  · exact h.l0
  · exact h.l1
  · exact h.l2
  · exact h.l3
  · exact h.l4
  · exact h.l5
  · exact h.l6
  · exact h.l7
theorem lv_take (l : Lvs) (j : Nat) (h : j < 8) : l.bs.take (j + 1) = l.bs.take j ++ be 1 (lvAt l j) := by
  rw [be1]
  rcases (by omega : j = 0 ∨ j = 1 ∨ j = 2 ∨ j = 3 ∨ j = 4 ∨ j = 5 ∨ j = 6 ∨ j = 7) with rfl | rfl | rfl | rfl | rfl | rfl | rfl | rfl <;> rfl
section
variable (Γ : Ctx) (b0 : Nat) (f : Fm) (z : ByteArray) (S : List UInt8) (n : Nat) (Q : T → Obs → Glb → Prop)
theorem renc_e (hf : f.Ok) (hS : S.length ≤ 5000) (hn : n < z.size) (hn1 : n ≤ 100) (hz : ZAt z n 101) (nx : (TWk Tryd.prog Γ (fin Tryd.prog Tryd.f12 [] Q) [.code (sub (bd Tryd.f12) [1, 1, 1, 1, 0, 1, 0]), .blk 0, .code (sub (bd Tryd.f12) [1, 1, 1, 1, 1])] ⟨frame 260 [(1, .ptr 0 b0 0), (4, .v (.string z)), (5, str (S ++ f.fb 101)), (6, int (n + 1 : Nat))], [(b0, .cells (frC f))], none_⟩)) :
    TWk Tryd.prog Γ (fin Tryd.prog Tryd.f12 [] Q) [.code (sub (bd Tryd.f12) [1, 1, 1, 1, 0, 1, 0]), .blk 0, .code (sub (bd Tryd.f12) [1, 1, 1, 1, 1])] ⟨frame 260 [(1, .ptr 0 b0 0), (4, .v (.string z)), (5, str (S)), (6, int (n : Nat))], [(b0, .cells (frC f))], none_⟩ := by
  have hfb : f.fb 101 = be 4 f.ep := rfl
  rw [hfb] at nx
  have s0 := rfour_post (f.ep) hf.ep
  have l0 : (be 4 f.ep).length ≤ 4 := Nat.le_of_eq (length_be 4 _)
  generalize be 4 f.ep = x0 at *
  clear hfb
  refine run_sound (⟨fun | 8, 2 => .res (u8 101) | 7, 1 => .res (int (n + 1 : Nat)) | 18, 3 => told (str x0) [] [] | 18, 4 => .res (str (S ++ x0)) | _, _ => .no, [((2, 6), ([1, 4, 5, 6], 1))], fun | 4 => some ⟨[], [9], .take true [0,1,3,4,7,8] (.one 2 (.one 5 (.take false [6] (.one 9 (.take false [10,11] .done)))))⟩ | 24 => some ⟨[], [10], .take false [0,1,4,8] (.take true [2,5,9] (.one 3 (.one 6 (.take false [7] (.one 10 (.take false [11,12,13] .done))))))⟩ | 28 => some ⟨[], [], .take true [0,1,2,4,5,6,7,10,11] (.one 3 (.one 8 (.take true [9,12,13,14] .done)))⟩ | 40 => some ⟨[], [6], .take false [0,1,4] (.take true [2,5] (.one 3 (.one 6 (.take false [7,8,9] .done))))⟩ | 48 => some ⟨[], [8], .take false [0,1,4] (.take true [2,5,6,7] (.one 3 (.one 8 (.take false [9,10,11] .done))))⟩ | 52 => some ⟨[], [22], .take false [0,1,3,8,10,16,18] (.take true [2,4,5,6,9,11,12,13,17,19,20,21] (.one 7 (.one 14 (.take false [15] (.one 22 (.take false [23,24,25] .done))))))⟩ | 16 => some ⟨[], [14], .take false [0,1,4,8,12] (.take true [2,5,9,13] (.one 3 (.one 6 (.take false [7] (.one 10 (.take false [11] (.one 14 (.take false [15,16,17] .done))))))))⟩ | _ => none⟩) 400 (B := bsplit (decide ((↑n : Int) < (↑(ByteArray.size z) : Int))) ((0 : Int) ≤ (↑n : Int) ∧ Option.map (fun c => u8 (UInt8.toNat c)) z[Int.toNat (↑n : Int)]? = some (u8 101) ∧ b0 = b0 ∧ TCalls Tryd.prog 34 [u32 (Fm.ep f)] [] none_ (callPost (Hint.call false Unit (fun x => True) [] false (fun x => str x0) (fun x => []) fun x => none_)) ∧ ∀ (a : Unit), True → ByteArray.size (ByteArray.mk (List.toArray S)) + ByteArray.size (ByteArray.mk (List.toArray x0)) ≤ 9223372036854775807 ∧ some (T.v (Value.string ((ByteArray.mk (List.toArray S)) ++ (ByteArray.mk (List.toArray x0))))) = some (str (S ++ x0)) ∧ int (IntKind.wrap IntKind.i64 ((↑n : Int) + (1 : Int))) = int (n + 1) ∧ TWk Tryd.prog Γ (fin Tryd.prog Tryd.f12 [] Q) [It.code (sub (bd Tryd.f12) [1, 1, 1, 1, 0, 1, 0]), It.blk 0, It.code (sub (bd Tryd.f12) [1, 1, 1, 1, 1])] { fr := frame 260 [(1, T.ptr 0 b0 0), (4, T.v (Value.string z)), (5, str (S ++ x0)), (6, int (n + 1))], ob := [(b0, Ob.cells (frC f))], gl := fun x => none }) False) (by kernel_rfl) ?_
  repeat' (first | exact rfl | exact Nat.le_of_ble_eq_true rfl | refine And.intro ?_ ?_ | intro _ | refine bsplit_mk (fun _ => ?_) (fun _ => ?_))
  all_goals first
    | exact s0
    | exact nx
    | exact hz
    | exact n1T (by omega)
    | exact Int.natCast_nonneg _
    | exact catL _ _
    | exact cat_ok _ _ (by first | omega | (simp only [List.length_append]; omega))
    | (exfalso; simp only [decide_eq_true_eq, decide_eq_false_iff_not] at *; omega)
    | (simp only [decide_eq_true_eq, decide_eq_false_iff_not] at *; omega)
    | (clear nx; trace_state)
theorem renc_k (hf : f.Ok) (hS : S.length ≤ 5000) (hn : n < z.size) (hn1 : n ≤ 100) (hz : ZAt z n 107) (hbad : f.may 107 = false → Q (.tup [str [], bool false]) [] none_) (nx : f.may 107 = true → (TWk Tryd.prog Γ (fin Tryd.prog Tryd.f12 [] Q) [.code (sub (bd Tryd.f12) [1, 1, 1, 1, 0, 1, 0]), .blk 0, .code (sub (bd Tryd.f12) [1, 1, 1, 1, 1])] ⟨frame 260 [(1, .ptr 0 b0 0), (4, .v (.string z)), (5, str (S ++ f.fb 107)), (6, int (n + 1 : Nat))], [(b0, .cells (frC f))], none_⟩)) :
    TWk Tryd.prog Γ (fin Tryd.prog Tryd.f12 [] Q) [.code (sub (bd Tryd.f12) [1, 1, 1, 1, 0, 1, 0]), .blk 0, .code (sub (bd Tryd.f12) [1, 1, 1, 1, 1])] ⟨frame 260 [(1, .ptr 0 b0 0), (4, .v (.string z)), (5, str (S)), (6, int (n : Nat))], [(b0, .cells (frC f))], none_⟩ := by
  have hfb : f.fb 107 = be 1 f.key := rfl
  rw [hfb] at nx
  have s0 := rone_post (f.key) hf.key
  have l0 : (be 1 f.key).length ≤ 1 := Nat.le_of_eq (length_be 1 _)
  generalize be 1 f.key = x0 at *
  clear hfb
  refine run_sound (⟨fun | 8, 2 => .res (u8 107) | 7, 1 => .res (int (n + 1 : Nat)) | 22, 3 => told (str x0) [] [] | 22, 4 => .res (str (S ++ x0)) | _, _ => .no, [((2, 6), ([1, 4, 5, 6], 1))], fun | 4 => some ⟨[], [9], .take true [0,1,3,4,7,8] (.one 2 (.one 5 (.take false [6] (.one 9 (.take false [10,11] .done)))))⟩ | 24 => some ⟨[], [10], .take false [0,1,4,8] (.take true [2,5,9] (.one 3 (.one 6 (.take false [7] (.one 10 (.take false [11,12,13] .done))))))⟩ | 28 => some ⟨[], [], .take true [0,1,2,4,5,6,7,10,11] (.one 3 (.one 8 (.take true [9,12,13,14] .done)))⟩ | 40 => some ⟨[], [6], .take false [0,1,4] (.take true [2,5] (.one 3 (.one 6 (.take false [7,8,9] .done))))⟩ | 48 => some ⟨[], [8], .take false [0,1,4] (.take true [2,5,6,7] (.one 3 (.one 8 (.take false [9,10,11] .done))))⟩ | 52 => some ⟨[], [22], .take false [0,1,3,8,10,16,18] (.take true [2,4,5,6,9,11,12,13,17,19,20,21] (.one 7 (.one 14 (.take false [15] (.one 22 (.take false [23,24,25] .done))))))⟩ | 16 => some ⟨[], [14], .take false [0,1,4,8,12] (.take true [2,5,9,13] (.one 3 (.one 6 (.take false [7] (.one 10 (.take false [11] (.one 14 (.take false [15,16,17] .done))))))))⟩ | _ => none⟩) 400 (B := bsplit (decide ((↑n : Int) < (↑(ByteArray.size z) : Int))) ((0 : Int) ≤ (↑n : Int) ∧ Option.map (fun c => u8 (UInt8.toNat c)) z[Int.toNat (↑n : Int)]? = some (u8 107) ∧ b0 = b0 ∧ bsplit (decide ((↑(Fm.key f) : Int) ≥ (6 : Int))) (Q (T.tup [str [], bool false]) [] fun x => none) (b0 = b0 ∧ TCalls Tryd.prog 33 [u8 (Fm.key f)] [] none_ (callPost (Hint.call false Unit (fun x => True) [] false (fun x => str x0) (fun x => []) fun x => none_)) ∧ ∀ (a : Unit), True → ByteArray.size (ByteArray.mk (List.toArray S)) + ByteArray.size (ByteArray.mk (List.toArray x0)) ≤ 9223372036854775807 ∧ some (T.v (Value.string ((ByteArray.mk (List.toArray S)) ++ (ByteArray.mk (List.toArray x0))))) = some (str (S ++ x0)) ∧ int (IntKind.wrap IntKind.i64 ((↑n : Int) + (1 : Int))) = int (n + 1) ∧ TWk Tryd.prog Γ (fin Tryd.prog Tryd.f12 [] Q) [It.code (sub (bd Tryd.f12) [1, 1, 1, 1, 0, 1, 0]), It.blk 0, It.code (sub (bd Tryd.f12) [1, 1, 1, 1, 1])] { fr := frame 260 [(1, T.ptr 0 b0 0), (4, T.v (Value.string z)), (5, str (S ++ x0)), (6, int (n + 1))], ob := [(b0, Ob.cells (frC f))], gl := fun x => none })) False) (by kernel_rfl) ?_
  repeat' (first | exact rfl | exact Nat.le_of_ble_eq_true rfl | refine And.intro ?_ ?_ | intro _ | refine bsplit_mk (fun _ => ?_) (fun _ => ?_))
  all_goals first
    | exact s0
    | exact nx (decide_eq_true (by simp only [decide_eq_true_eq, decide_eq_false_iff_not] at *; omega))
    | exact hbad (decide_eq_false (by simp only [decide_eq_true_eq, decide_eq_false_iff_not] at *; omega))
    | exact hz
    | exact n1T (by omega)
    | exact Int.natCast_nonneg _
    | exact catL _ _
    | exact cat_ok _ _ (by first | omega | (simp only [List.length_append]; omega))
    | (exfalso; simp only [decide_eq_true_eq, decide_eq_false_iff_not] at *; omega)
    | (simp only [decide_eq_true_eq, decide_eq_false_iff_not] at *; omega)
    | (clear nx; trace_state)
theorem renc_s (hf : f.Ok) (hS : S.length ≤ 5000) (hn : n < z.size) (hn1 : n ≤ 100) (hz : ZAt z n 115) (nx : (TWk Tryd.prog Γ (fin Tryd.prog Tryd.f12 [] Q) [.code (sub (bd Tryd.f12) [1, 1, 1, 1, 0, 1, 0]), .blk 0, .code (sub (bd Tryd.f12) [1, 1, 1, 1, 1])] ⟨frame 260 [(1, .ptr 0 b0 0), (4, .v (.string z)), (5, str (S ++ f.fb 115)), (6, int (n + 1 : Nat))], [(b0, .cells (frC f))], none_⟩)) :
    TWk Tryd.prog Γ (fin Tryd.prog Tryd.f12 [] Q) [.code (sub (bd Tryd.f12) [1, 1, 1, 1, 0, 1, 0]), .blk 0, .code (sub (bd Tryd.f12) [1, 1, 1, 1, 1])] ⟨frame 260 [(1, .ptr 0 b0 0), (4, .v (.string z)), (5, str (S)), (6, int (n : Nat))], [(b0, .cells (frC f))], none_⟩ := by
  have hfb : f.fb 115 = (be 4 f.sn ++ be 1 f.sb) ++ be 1 f.sl := by rw [List.append_assoc]; rfl
  rw [hfb] at nx
  have s0 := rfour_post (f.sn) hf.sn
  have l0 : (be 4 f.sn).length ≤ 4 := Nat.le_of_eq (length_be 4 _)
  have s1 := rone_post (f.sb) hf.sb
  have l1 : (be 1 f.sb).length ≤ 1 := Nat.le_of_eq (length_be 1 _)
  have s2 := rone_post (f.sl) hf.sl
  have l2 : (be 1 f.sl).length ≤ 1 := Nat.le_of_eq (length_be 1 _)
  generalize be 4 f.sn = x0 at *
  generalize be 1 f.sb = x1 at *
  generalize be 1 f.sl = x2 at *
  clear hfb
  refine run_sound (⟨fun | 8, 2 => .res (u8 115) | 7, 1 => .res (int (n + 1 : Nat)) | 24, 3 => told (str x0) [] [] | 24, 6 => told (str x1) [] [] | 24, 7 => .res (str (x0 ++ x1)) | 24, 10 => told (str x2) [] [] | 24, 11 => .res (str ((x0 ++ x1) ++ x2)) | 24, 12 => .res (str (S ++ ((x0 ++ x1) ++ x2))) | _, _ => .no, [((2, 6), ([1, 4, 5, 6], 1))], fun | 4 => some ⟨[], [9], .take true [0,1,3,4,7,8] (.one 2 (.one 5 (.take false [6] (.one 9 (.take false [10,11] .done)))))⟩ | 24 => some ⟨[0], [10], .take false [0,1,4,8] (.take true [2,5,9] (.one 3 (.one 6 (.take false [7] (.one 10 (.take false [11,12,13] .done))))))⟩ | 28 => some ⟨[], [], .take true [0,1,2,4,5,6,7,10,11] (.one 3 (.one 8 (.take true [9,12,13,14] .done)))⟩ | 40 => some ⟨[], [6], .take false [0,1,4] (.take true [2,5] (.one 3 (.one 6 (.take false [7,8,9] .done))))⟩ | 48 => some ⟨[], [8], .take false [0,1,4] (.take true [2,5,6,7] (.one 3 (.one 8 (.take false [9,10,11] .done))))⟩ | 52 => some ⟨[], [22], .take false [0,1,3,8,10,16,18] (.take true [2,4,5,6,9,11,12,13,17,19,20,21] (.one 7 (.one 14 (.take false [15] (.one 22 (.take false [23,24,25] .done))))))⟩ | 16 => some ⟨[], [14], .take false [0,1,4,8,12] (.take true [2,5,9,13] (.one 3 (.one 6 (.take false [7] (.one 10 (.take false [11] (.one 14 (.take false [15,16,17] .done))))))))⟩ | _ => none⟩) 400 (B := bsplit (decide ((↑n : Int) < (↑(ByteArray.size z) : Int))) ((0 : Int) ≤ (↑n : Int) ∧ Option.map (fun c => u8 (UInt8.toNat c)) z[Int.toNat (↑n : Int)]? = some (u8 115) ∧ b0 = b0 ∧ b0 = b0 ∧ b0 = b0 ∧ TCalls Tryd.prog 34 [u32 (Fm.sn f)] [] none_ (callPost (Hint.call false Unit (fun x => True) [] false (fun x => str x0) (fun x => []) fun x => none_)) ∧ ∀ (a : Unit), True → TCalls Tryd.prog 33 [u8 (Fm.sb f)] [] none_ (callPost (Hint.call false Unit (fun x => True) [] false (fun x => str x1) (fun x => []) fun x => none_)) ∧ ∀ (a : Unit), True → ByteArray.size (ByteArray.mk (List.toArray x0)) + ByteArray.size (ByteArray.mk (List.toArray x1)) ≤ 9223372036854775807 ∧ some (T.v (Value.string ((ByteArray.mk (List.toArray x0)) ++ (ByteArray.mk (List.toArray x1))))) = some (str (x0 ++ x1)) ∧ TCalls Tryd.prog 33 [u8 (Fm.sl f)] [] none_ (callPost (Hint.call false Unit (fun x => True) [] false (fun x => str x2) (fun x => []) fun x => none_)) ∧ ∀ (a : Unit), True → ByteArray.size (ByteArray.mk (List.toArray (x0 ++ x1))) + ByteArray.size (ByteArray.mk (List.toArray x2)) ≤ 9223372036854775807 ∧ some (T.v (Value.string ((ByteArray.mk (List.toArray (x0 ++ x1))) ++ (ByteArray.mk (List.toArray x2))))) = some (str (x0 ++ x1 ++ x2)) ∧ ByteArray.size (ByteArray.mk (List.toArray S)) + ByteArray.size (ByteArray.mk (List.toArray (x0 ++ x1 ++ x2))) ≤ 9223372036854775807 ∧ some (T.v (Value.string ((ByteArray.mk (List.toArray S)) ++ (ByteArray.mk (List.toArray (x0 ++ x1 ++ x2)))))) = some (str (S ++ (x0 ++ x1 ++ x2))) ∧ int (IntKind.wrap IntKind.i64 ((↑n : Int) + (1 : Int))) = int (n + 1) ∧ TWk Tryd.prog Γ (fin Tryd.prog Tryd.f12 [] Q) [It.code (sub (bd Tryd.f12) [1, 1, 1, 1, 0, 1, 0]), It.blk 0, It.code (sub (bd Tryd.f12) [1, 1, 1, 1, 1])] { fr := frame 260 [(1, T.ptr 0 b0 0), (4, T.v (Value.string z)), (5, str (S ++ (x0 ++ x1 ++ x2))), (6, int (n + 1))], ob := [(b0, Ob.cells (frC f))], gl := fun x => none }) False) (by kernel_rfl) ?_
  repeat' (first | exact rfl | exact Nat.le_of_ble_eq_true rfl | refine And.intro ?_ ?_ | intro _ | refine bsplit_mk (fun _ => ?_) (fun _ => ?_))
  all_goals first
    | exact s0
    | exact s1
    | exact s2
    | exact nx
    | exact hz
    | exact n1T (by omega)
    | exact Int.natCast_nonneg _
    | exact catL _ _
    | exact cat_ok _ _ (by first | omega | (simp only [List.length_append]; omega))
    | (exfalso; simp only [decide_eq_true_eq, decide_eq_false_iff_not] at *; omega)
    | (simp only [decide_eq_true_eq, decide_eq_false_iff_not] at *; omega)
    | (clear nx; trace_state)
theorem renc_r (hf : f.Ok) (hS : S.length ≤ 5000) (hn : n < z.size) (hn1 : n ≤ 100) (hz : ZAt z n 114) (nx : (TWk Tryd.prog Γ (fin Tryd.prog Tryd.f12 [] Q) [.code (sub (bd Tryd.f12) [1, 1, 1, 1, 0, 1, 0]), .blk 0, .code (sub (bd Tryd.f12) [1, 1, 1, 1, 1])] ⟨frame 260 [(1, .ptr 0 b0 0), (4, .v (.string z)), (5, str (S ++ f.fb 114)), (6, int (n + 1 : Nat))], [(b0, .cells (frC f))], none_⟩)) :
    TWk Tryd.prog Γ (fin Tryd.prog Tryd.f12 [] Q) [.code (sub (bd Tryd.f12) [1, 1, 1, 1, 0, 1, 0]), .blk 0, .code (sub (bd Tryd.f12) [1, 1, 1, 1, 1])] ⟨frame 260 [(1, .ptr 0 b0 0), (4, .v (.string z)), (5, str (S)), (6, int (n : Nat))], [(b0, .cells (frC f))], none_⟩ := by
  have hfb : f.fb 114 = be 1 (one f.rmw) := rfl
  rw [hfb] at nx
  have s0 := rflag_post (f.rmw)
  have l0 : (be 1 (one f.rmw)).length ≤ 1 := Nat.le_of_eq (length_be 1 _)
  generalize be 1 (one f.rmw) = x0 at *
  clear hfb
  refine run_sound (⟨fun | 8, 2 => .res (u8 114) | 7, 1 => .res (int (n + 1 : Nat)) | 30, 3 => told (str x0) [] [] | 30, 4 => .res (str (S ++ x0)) | _, _ => .no, [((2, 6), ([1, 4, 5, 6], 1))], fun | 4 => some ⟨[], [9], .take true [0,1,3,4,7,8] (.one 2 (.one 5 (.take false [6] (.one 9 (.take false [10,11] .done)))))⟩ | 24 => some ⟨[], [10], .take false [0,1,4,8] (.take true [2,5,9] (.one 3 (.one 6 (.take false [7] (.one 10 (.take false [11,12,13] .done))))))⟩ | 28 => some ⟨[], [], .take true [0,1,2,4,5,6,7,10,11] (.one 3 (.one 8 (.take true [9,12,13,14] .done)))⟩ | 40 => some ⟨[], [6], .take false [0,1,4] (.take true [2,5] (.one 3 (.one 6 (.take false [7,8,9] .done))))⟩ | 48 => some ⟨[], [8], .take false [0,1,4] (.take true [2,5,6,7] (.one 3 (.one 8 (.take false [9,10,11] .done))))⟩ | 52 => some ⟨[], [22], .take false [0,1,3,8,10,16,18] (.take true [2,4,5,6,9,11,12,13,17,19,20,21] (.one 7 (.one 14 (.take false [15] (.one 22 (.take false [23,24,25] .done))))))⟩ | 16 => some ⟨[], [14], .take false [0,1,4,8,12] (.take true [2,5,9,13] (.one 3 (.one 6 (.take false [7] (.one 10 (.take false [11] (.one 14 (.take false [15,16,17] .done))))))))⟩ | _ => none⟩) 400 (B := bsplit (decide ((↑n : Int) < (↑(ByteArray.size z) : Int))) ((0 : Int) ≤ (↑n : Int) ∧ Option.map (fun c => u8 (UInt8.toNat c)) z[Int.toNat (↑n : Int)]? = some (u8 114) ∧ b0 = b0 ∧ TCalls Tryd.prog 35 [bool (Fm.rmw f)] [] none_ (callPost (Hint.call false Unit (fun x => True) [] false (fun x => str x0) (fun x => []) fun x => none_)) ∧ ∀ (a : Unit), True → ByteArray.size (ByteArray.mk (List.toArray S)) + ByteArray.size (ByteArray.mk (List.toArray x0)) ≤ 9223372036854775807 ∧ some (T.v (Value.string ((ByteArray.mk (List.toArray S)) ++ (ByteArray.mk (List.toArray x0))))) = some (str (S ++ x0)) ∧ int (IntKind.wrap IntKind.i64 ((↑n : Int) + (1 : Int))) = int (n + 1) ∧ TWk Tryd.prog Γ (fin Tryd.prog Tryd.f12 [] Q) [It.code (sub (bd Tryd.f12) [1, 1, 1, 1, 0, 1, 0]), It.blk 0, It.code (sub (bd Tryd.f12) [1, 1, 1, 1, 1])] { fr := frame 260 [(1, T.ptr 0 b0 0), (4, T.v (Value.string z)), (5, str (S ++ x0)), (6, int (n + 1))], ob := [(b0, Ob.cells (frC f))], gl := fun x => none }) False) (by kernel_rfl) ?_
  repeat' (first | exact rfl | exact Nat.le_of_ble_eq_true rfl | refine And.intro ?_ ?_ | intro _ | refine bsplit_mk (fun _ => ?_) (fun _ => ?_))
  all_goals first
    | exact s0
    | exact nx
    | exact hz
    | exact n1T (by omega)
    | exact Int.natCast_nonneg _
    | exact catL _ _
    | exact cat_ok _ _ (by first | omega | (simp only [List.length_append]; omega))
    | (exfalso; simp only [decide_eq_true_eq, decide_eq_false_iff_not] at *; omega)
    | (simp only [decide_eq_true_eq, decide_eq_false_iff_not] at *; omega)
    | (clear nx; trace_state)
theorem renc_f (hf : f.Ok) (hS : S.length ≤ 5000) (hn : n < z.size) (hn1 : n ≤ 100) (hz : ZAt z n 102) (nx : (TWk Tryd.prog Γ (fin Tryd.prog Tryd.f12 [] Q) [.code (sub (bd Tryd.f12) [1, 1, 1, 1, 0, 1, 0]), .blk 0, .code (sub (bd Tryd.f12) [1, 1, 1, 1, 1])] ⟨frame 260 [(1, .ptr 0 b0 0), (4, .v (.string z)), (5, str (S ++ f.fb 102)), (6, int (n + 1 : Nat))], [(b0, .cells (frC f))], none_⟩)) :
    TWk Tryd.prog Γ (fin Tryd.prog Tryd.f12 [] Q) [.code (sub (bd Tryd.f12) [1, 1, 1, 1, 0, 1, 0]), .blk 0, .code (sub (bd Tryd.f12) [1, 1, 1, 1, 1])] ⟨frame 260 [(1, .ptr 0 b0 0), (4, .v (.string z)), (5, str (S)), (6, int (n : Nat))], [(b0, .cells (frC f))], none_⟩ := by
  have hfb : f.fb 102 = be 1 (one f.flag) := rfl
  rw [hfb] at nx
  have s0 := rflag_post (f.flag)
  have l0 : (be 1 (one f.flag)).length ≤ 1 := Nat.le_of_eq (length_be 1 _)
  generalize be 1 (one f.flag) = x0 at *
  clear hfb
  refine run_sound (⟨fun | 8, 2 => .res (u8 102) | 7, 1 => .res (int (n + 1 : Nat)) | 32, 3 => told (str x0) [] [] | 32, 4 => .res (str (S ++ x0)) | _, _ => .no, [((2, 6), ([1, 4, 5, 6], 1))], fun | 4 => some ⟨[], [9], .take true [0,1,3,4,7,8] (.one 2 (.one 5 (.take false [6] (.one 9 (.take false [10,11] .done)))))⟩ | 24 => some ⟨[], [10], .take false [0,1,4,8] (.take true [2,5,9] (.one 3 (.one 6 (.take false [7] (.one 10 (.take false [11,12,13] .done))))))⟩ | 28 => some ⟨[], [], .take true [0,1,2,4,5,6,7,10,11] (.one 3 (.one 8 (.take true [9,12,13,14] .done)))⟩ | 40 => some ⟨[], [6], .take false [0,1,4] (.take true [2,5] (.one 3 (.one 6 (.take false [7,8,9] .done))))⟩ | 48 => some ⟨[], [8], .take false [0,1,4] (.take true [2,5,6,7] (.one 3 (.one 8 (.take false [9,10,11] .done))))⟩ | 52 => some ⟨[], [22], .take false [0,1,3,8,10,16,18] (.take true [2,4,5,6,9,11,12,13,17,19,20,21] (.one 7 (.one 14 (.take false [15] (.one 22 (.take false [23,24,25] .done))))))⟩ | 16 => some ⟨[], [14], .take false [0,1,4,8,12] (.take true [2,5,9,13] (.one 3 (.one 6 (.take false [7] (.one 10 (.take false [11] (.one 14 (.take false [15,16,17] .done))))))))⟩ | _ => none⟩) 400 (B := bsplit (decide ((↑n : Int) < (↑(ByteArray.size z) : Int))) ((0 : Int) ≤ (↑n : Int) ∧ Option.map (fun c => u8 (UInt8.toNat c)) z[Int.toNat (↑n : Int)]? = some (u8 102) ∧ b0 = b0 ∧ TCalls Tryd.prog 35 [bool (Fm.flag f)] [] none_ (callPost (Hint.call false Unit (fun x => True) [] false (fun x => str x0) (fun x => []) fun x => none_)) ∧ ∀ (a : Unit), True → ByteArray.size (ByteArray.mk (List.toArray S)) + ByteArray.size (ByteArray.mk (List.toArray x0)) ≤ 9223372036854775807 ∧ some (T.v (Value.string ((ByteArray.mk (List.toArray S)) ++ (ByteArray.mk (List.toArray x0))))) = some (str (S ++ x0)) ∧ int (IntKind.wrap IntKind.i64 ((↑n : Int) + (1 : Int))) = int (n + 1) ∧ TWk Tryd.prog Γ (fin Tryd.prog Tryd.f12 [] Q) [It.code (sub (bd Tryd.f12) [1, 1, 1, 1, 0, 1, 0]), It.blk 0, It.code (sub (bd Tryd.f12) [1, 1, 1, 1, 1])] { fr := frame 260 [(1, T.ptr 0 b0 0), (4, T.v (Value.string z)), (5, str (S ++ x0)), (6, int (n + 1))], ob := [(b0, Ob.cells (frC f))], gl := fun x => none }) False) (by kernel_rfl) ?_
  repeat' (first | exact rfl | exact Nat.le_of_ble_eq_true rfl | refine And.intro ?_ ?_ | intro _ | refine bsplit_mk (fun _ => ?_) (fun _ => ?_))
  all_goals first
    | exact s0
    | exact nx
    | exact hz
    | exact n1T (by omega)
    | exact Int.natCast_nonneg _
    | exact catL _ _
    | exact cat_ok _ _ (by first | omega | (simp only [List.length_append]; omega))
    | (exfalso; simp only [decide_eq_true_eq, decide_eq_false_iff_not] at *; omega)
    | (simp only [decide_eq_true_eq, decide_eq_false_iff_not] at *; omega)
    | (clear nx; trace_state)
theorem renc_d (hf : f.Ok) (hS : S.length ≤ 5000) (hn : n < z.size) (hn1 : n ≤ 100) (hz : ZAt z n 100) (nx : (TWk Tryd.prog Γ (fin Tryd.prog Tryd.f12 [] Q) [.code (sub (bd Tryd.f12) [1, 1, 1, 1, 0, 1, 0]), .blk 0, .code (sub (bd Tryd.f12) [1, 1, 1, 1, 1])] ⟨frame 260 [(1, .ptr 0 b0 0), (4, .v (.string z)), (5, str (S ++ f.fb 100)), (6, int (n + 1 : Nat))], [(b0, .cells (frC f))], none_⟩)) :
    TWk Tryd.prog Γ (fin Tryd.prog Tryd.f12 [] Q) [.code (sub (bd Tryd.f12) [1, 1, 1, 1, 0, 1, 0]), .blk 0, .code (sub (bd Tryd.f12) [1, 1, 1, 1, 1])] ⟨frame 260 [(1, .ptr 0 b0 0), (4, .v (.string z)), (5, str (S)), (6, int (n : Nat))], [(b0, .cells (frC f))], none_⟩ := by
  have hfb : f.fb 100 = be 1 f.dir := rfl
  rw [hfb] at nx
  have s0 := rone_post (f.dir) hf.dir
  have l0 : (be 1 f.dir).length ≤ 1 := Nat.le_of_eq (length_be 1 _)
  generalize be 1 f.dir = x0 at *
  clear hfb
  refine run_sound (⟨fun | 8, 2 => .res (u8 100) | 7, 1 => .res (int (n + 1 : Nat)) | 34, 3 => told (str x0) [] [] | 34, 4 => .res (str (S ++ x0)) | _, _ => .no, [((2, 6), ([1, 4, 5, 6], 1))], fun | 4 => some ⟨[], [9], .take true [0,1,3,4,7,8] (.one 2 (.one 5 (.take false [6] (.one 9 (.take false [10,11] .done)))))⟩ | 24 => some ⟨[], [10], .take false [0,1,4,8] (.take true [2,5,9] (.one 3 (.one 6 (.take false [7] (.one 10 (.take false [11,12,13] .done))))))⟩ | 28 => some ⟨[], [], .take true [0,1,2,4,5,6,7,10,11] (.one 3 (.one 8 (.take true [9,12,13,14] .done)))⟩ | 40 => some ⟨[], [6], .take false [0,1,4] (.take true [2,5] (.one 3 (.one 6 (.take false [7,8,9] .done))))⟩ | 48 => some ⟨[], [8], .take false [0,1,4] (.take true [2,5,6,7] (.one 3 (.one 8 (.take false [9,10,11] .done))))⟩ | 52 => some ⟨[], [22], .take false [0,1,3,8,10,16,18] (.take true [2,4,5,6,9,11,12,13,17,19,20,21] (.one 7 (.one 14 (.take false [15] (.one 22 (.take false [23,24,25] .done))))))⟩ | 16 => some ⟨[], [14], .take false [0,1,4,8,12] (.take true [2,5,9,13] (.one 3 (.one 6 (.take false [7] (.one 10 (.take false [11] (.one 14 (.take false [15,16,17] .done))))))))⟩ | _ => none⟩) 400 (B := bsplit (decide ((↑n : Int) < (↑(ByteArray.size z) : Int))) ((0 : Int) ≤ (↑n : Int) ∧ Option.map (fun c => u8 (UInt8.toNat c)) z[Int.toNat (↑n : Int)]? = some (u8 100) ∧ b0 = b0 ∧ TCalls Tryd.prog 33 [u8 (Fm.dir f)] [] none_ (callPost (Hint.call false Unit (fun x => True) [] false (fun x => str x0) (fun x => []) fun x => none_)) ∧ ∀ (a : Unit), True → ByteArray.size (ByteArray.mk (List.toArray S)) + ByteArray.size (ByteArray.mk (List.toArray x0)) ≤ 9223372036854775807 ∧ some (T.v (Value.string ((ByteArray.mk (List.toArray S)) ++ (ByteArray.mk (List.toArray x0))))) = some (str (S ++ x0)) ∧ int (IntKind.wrap IntKind.i64 ((↑n : Int) + (1 : Int))) = int (n + 1) ∧ TWk Tryd.prog Γ (fin Tryd.prog Tryd.f12 [] Q) [It.code (sub (bd Tryd.f12) [1, 1, 1, 1, 0, 1, 0]), It.blk 0, It.code (sub (bd Tryd.f12) [1, 1, 1, 1, 1])] { fr := frame 260 [(1, T.ptr 0 b0 0), (4, T.v (Value.string z)), (5, str (S ++ x0)), (6, int (n + 1))], ob := [(b0, Ob.cells (frC f))], gl := fun x => none }) False) (by kernel_rfl) ?_
  repeat' (first | exact rfl | exact Nat.le_of_ble_eq_true rfl | refine And.intro ?_ ?_ | intro _ | refine bsplit_mk (fun _ => ?_) (fun _ => ?_))
  all_goals first
    | exact s0
    | exact nx
    | exact hz
    | exact n1T (by omega)
    | exact Int.natCast_nonneg _
    | exact catL _ _
    | exact cat_ok _ _ (by first | omega | (simp only [List.length_append]; omega))
    | (exfalso; simp only [decide_eq_true_eq, decide_eq_false_iff_not] at *; omega)
    | (simp only [decide_eq_true_eq, decide_eq_false_iff_not] at *; omega)
    | (clear nx; trace_state)
theorem renc_l (hf : f.Ok) (hS : S.length ≤ 5000) (hn : n < z.size) (hn1 : n ≤ 100) (hz : ZAt z n 108) (nx : (TWk Tryd.prog Γ (fin Tryd.prog Tryd.f12 [] Q) [.code (sub (bd Tryd.f12) [1, 1, 1, 1, 0, 1, 0]), .blk 0, .code (sub (bd Tryd.f12) [1, 1, 1, 1, 1])] ⟨frame 260 [(1, .ptr 0 b0 0), (4, .v (.string z)), (5, str (S ++ f.fb 108)), (6, int (n + 1 : Nat))], [(b0, .cells (frC f))], none_⟩)) :
    TWk Tryd.prog Γ (fin Tryd.prog Tryd.f12 [] Q) [.code (sub (bd Tryd.f12) [1, 1, 1, 1, 0, 1, 0]), .blk 0, .code (sub (bd Tryd.f12) [1, 1, 1, 1, 1])] ⟨frame 260 [(1, .ptr 0 b0 0), (4, .v (.string z)), (5, str (S)), (6, int (n : Nat))], [(b0, .cells (frC f))], none_⟩ := by
  have hfb : f.fb 108 = be 1 f.life := rfl
  rw [hfb] at nx
  have s0 := rone_post (f.life) hf.life
  have l0 : (be 1 f.life).length ≤ 1 := Nat.le_of_eq (length_be 1 _)
  generalize be 1 f.life = x0 at *
  clear hfb
  refine run_sound (⟨fun | 8, 2 => .res (u8 108) | 7, 1 => .res (int (n + 1 : Nat)) | 36, 3 => told (str x0) [] [] | 36, 4 => .res (str (S ++ x0)) | _, _ => .no, [((2, 6), ([1, 4, 5, 6], 1))], fun | 4 => some ⟨[], [9], .take true [0,1,3,4,7,8] (.one 2 (.one 5 (.take false [6] (.one 9 (.take false [10,11] .done)))))⟩ | 24 => some ⟨[], [10], .take false [0,1,4,8] (.take true [2,5,9] (.one 3 (.one 6 (.take false [7] (.one 10 (.take false [11,12,13] .done))))))⟩ | 28 => some ⟨[], [], .take true [0,1,2,4,5,6,7,10,11] (.one 3 (.one 8 (.take true [9,12,13,14] .done)))⟩ | 40 => some ⟨[], [6], .take false [0,1,4] (.take true [2,5] (.one 3 (.one 6 (.take false [7,8,9] .done))))⟩ | 48 => some ⟨[], [8], .take false [0,1,4] (.take true [2,5,6,7] (.one 3 (.one 8 (.take false [9,10,11] .done))))⟩ | 52 => some ⟨[], [22], .take false [0,1,3,8,10,16,18] (.take true [2,4,5,6,9,11,12,13,17,19,20,21] (.one 7 (.one 14 (.take false [15] (.one 22 (.take false [23,24,25] .done))))))⟩ | 16 => some ⟨[], [14], .take false [0,1,4,8,12] (.take true [2,5,9,13] (.one 3 (.one 6 (.take false [7] (.one 10 (.take false [11] (.one 14 (.take false [15,16,17] .done))))))))⟩ | _ => none⟩) 400 (B := bsplit (decide ((↑n : Int) < (↑(ByteArray.size z) : Int))) ((0 : Int) ≤ (↑n : Int) ∧ Option.map (fun c => u8 (UInt8.toNat c)) z[Int.toNat (↑n : Int)]? = some (u8 108) ∧ b0 = b0 ∧ TCalls Tryd.prog 33 [u8 (Fm.life f)] [] none_ (callPost (Hint.call false Unit (fun x => True) [] false (fun x => str x0) (fun x => []) fun x => none_)) ∧ ∀ (a : Unit), True → ByteArray.size (ByteArray.mk (List.toArray S)) + ByteArray.size (ByteArray.mk (List.toArray x0)) ≤ 9223372036854775807 ∧ some (T.v (Value.string ((ByteArray.mk (List.toArray S)) ++ (ByteArray.mk (List.toArray x0))))) = some (str (S ++ x0)) ∧ int (IntKind.wrap IntKind.i64 ((↑n : Int) + (1 : Int))) = int (n + 1) ∧ TWk Tryd.prog Γ (fin Tryd.prog Tryd.f12 [] Q) [It.code (sub (bd Tryd.f12) [1, 1, 1, 1, 0, 1, 0]), It.blk 0, It.code (sub (bd Tryd.f12) [1, 1, 1, 1, 1])] { fr := frame 260 [(1, T.ptr 0 b0 0), (4, T.v (Value.string z)), (5, str (S ++ x0)), (6, int (n + 1))], ob := [(b0, Ob.cells (frC f))], gl := fun x => none }) False) (by kernel_rfl) ?_
  repeat' (first | exact rfl | exact Nat.le_of_ble_eq_true rfl | refine And.intro ?_ ?_ | intro _ | refine bsplit_mk (fun _ => ?_) (fun _ => ?_))
  all_goals first
    | exact s0
    | exact nx
    | exact hz
    | exact n1T (by omega)
    | exact Int.natCast_nonneg _
    | exact catL _ _
    | exact cat_ok _ _ (by first | omega | (simp only [List.length_append]; omega))
    | (exfalso; simp only [decide_eq_true_eq, decide_eq_false_iff_not] at *; omega)
    | (simp only [decide_eq_true_eq, decide_eq_false_iff_not] at *; omega)
    | (clear nx; trace_state)
theorem renc_q (hf : f.Ok) (hS : S.length ≤ 5000) (hn : n < z.size) (hn1 : n ≤ 100) (hz : ZAt z n 113) (nx : (TWk Tryd.prog Γ (fin Tryd.prog Tryd.f12 [] Q) [.code (sub (bd Tryd.f12) [1, 1, 1, 1, 0, 1, 0]), .blk 0, .code (sub (bd Tryd.f12) [1, 1, 1, 1, 1])] ⟨frame 260 [(1, .ptr 0 b0 0), (4, .v (.string z)), (5, str (S ++ f.fb 113)), (6, int (n + 1 : Nat))], [(b0, .cells (frC f))], none_⟩)) :
    TWk Tryd.prog Γ (fin Tryd.prog Tryd.f12 [] Q) [.code (sub (bd Tryd.f12) [1, 1, 1, 1, 0, 1, 0]), .blk 0, .code (sub (bd Tryd.f12) [1, 1, 1, 1, 1])] ⟨frame 260 [(1, .ptr 0 b0 0), (4, .v (.string z)), (5, str (S)), (6, int (n : Nat))], [(b0, .cells (frC f))], none_⟩ := by
  have hfb : f.fb 113 = be 4 f.req := rfl
  rw [hfb] at nx
  have s0 := rfour_post (f.req) hf.req
  have l0 : (be 4 f.req).length ≤ 4 := Nat.le_of_eq (length_be 4 _)
  generalize be 4 f.req = x0 at *
  clear hfb
  refine run_sound (⟨fun | 8, 2 => .res (u8 113) | 7, 1 => .res (int (n + 1 : Nat)) | 38, 3 => told (str x0) [] [] | 38, 4 => .res (str (S ++ x0)) | _, _ => .no, [((2, 6), ([1, 4, 5, 6], 1))], fun | 4 => some ⟨[], [9], .take true [0,1,3,4,7,8] (.one 2 (.one 5 (.take false [6] (.one 9 (.take false [10,11] .done)))))⟩ | 24 => some ⟨[], [10], .take false [0,1,4,8] (.take true [2,5,9] (.one 3 (.one 6 (.take false [7] (.one 10 (.take false [11,12,13] .done))))))⟩ | 28 => some ⟨[], [], .take true [0,1,2,4,5,6,7,10,11] (.one 3 (.one 8 (.take true [9,12,13,14] .done)))⟩ | 40 => some ⟨[], [6], .take false [0,1,4] (.take true [2,5] (.one 3 (.one 6 (.take false [7,8,9] .done))))⟩ | 48 => some ⟨[], [8], .take false [0,1,4] (.take true [2,5,6,7] (.one 3 (.one 8 (.take false [9,10,11] .done))))⟩ | 52 => some ⟨[], [22], .take false [0,1,3,8,10,16,18] (.take true [2,4,5,6,9,11,12,13,17,19,20,21] (.one 7 (.one 14 (.take false [15] (.one 22 (.take false [23,24,25] .done))))))⟩ | 16 => some ⟨[], [14], .take false [0,1,4,8,12] (.take true [2,5,9,13] (.one 3 (.one 6 (.take false [7] (.one 10 (.take false [11] (.one 14 (.take false [15,16,17] .done))))))))⟩ | _ => none⟩) 400 (B := bsplit (decide ((↑n : Int) < (↑(ByteArray.size z) : Int))) ((0 : Int) ≤ (↑n : Int) ∧ Option.map (fun c => u8 (UInt8.toNat c)) z[Int.toNat (↑n : Int)]? = some (u8 113) ∧ b0 = b0 ∧ TCalls Tryd.prog 34 [u32 (Fm.req f)] [] none_ (callPost (Hint.call false Unit (fun x => True) [] false (fun x => str x0) (fun x => []) fun x => none_)) ∧ ∀ (a : Unit), True → ByteArray.size (ByteArray.mk (List.toArray S)) + ByteArray.size (ByteArray.mk (List.toArray x0)) ≤ 9223372036854775807 ∧ some (T.v (Value.string ((ByteArray.mk (List.toArray S)) ++ (ByteArray.mk (List.toArray x0))))) = some (str (S ++ x0)) ∧ int (IntKind.wrap IntKind.i64 ((↑n : Int) + (1 : Int))) = int (n + 1) ∧ TWk Tryd.prog Γ (fin Tryd.prog Tryd.f12 [] Q) [It.code (sub (bd Tryd.f12) [1, 1, 1, 1, 0, 1, 0]), It.blk 0, It.code (sub (bd Tryd.f12) [1, 1, 1, 1, 1])] { fr := frame 260 [(1, T.ptr 0 b0 0), (4, T.v (Value.string z)), (5, str (S ++ x0)), (6, int (n + 1))], ob := [(b0, Ob.cells (frC f))], gl := fun x => none }) False) (by kernel_rfl) ?_
  repeat' (first | exact rfl | exact Nat.le_of_ble_eq_true rfl | refine And.intro ?_ ?_ | intro _ | refine bsplit_mk (fun _ => ?_) (fun _ => ?_))
  all_goals first
    | exact s0
    | exact nx
    | exact hz
    | exact n1T (by omega)
    | exact Int.natCast_nonneg _
    | exact catL _ _
    | exact cat_ok _ _ (by first | omega | (simp only [List.length_append]; omega))
    | (exfalso; simp only [decide_eq_true_eq, decide_eq_false_iff_not] at *; omega)
    | (simp only [decide_eq_true_eq, decide_eq_false_iff_not] at *; omega)
    | (clear nx; trace_state)
theorem renc_b (hf : f.Ok) (hS : S.length ≤ 5000) (hn : n < z.size) (hn1 : n ≤ 100) (hz : ZAt z n 98) (nx : (TWk Tryd.prog Γ (fin Tryd.prog Tryd.f12 [] Q) [.code (sub (bd Tryd.f12) [1, 1, 1, 1, 0, 1, 0]), .blk 0, .code (sub (bd Tryd.f12) [1, 1, 1, 1, 1])] ⟨frame 260 [(1, .ptr 0 b0 0), (4, .v (.string z)), (5, str (S ++ f.fb 98)), (6, int (n + 1 : Nat))], [(b0, .cells (frC f))], none_⟩)) :
    TWk Tryd.prog Γ (fin Tryd.prog Tryd.f12 [] Q) [.code (sub (bd Tryd.f12) [1, 1, 1, 1, 0, 1, 0]), .blk 0, .code (sub (bd Tryd.f12) [1, 1, 1, 1, 1])] ⟨frame 260 [(1, .ptr 0 b0 0), (4, .v (.string z)), (5, str (S)), (6, int (n : Nat))], [(b0, .cells (frC f))], none_⟩ := by
  have hfb : f.fb 98 = be 4 f.bn ++ be 1 f.bb := rfl
  rw [hfb] at nx
  have s0 := rfour_post (f.bn) hf.bn
  have l0 : (be 4 f.bn).length ≤ 4 := Nat.le_of_eq (length_be 4 _)
  have s1 := rone_post (f.bb) hf.bb
  have l1 : (be 1 f.bb).length ≤ 1 := Nat.le_of_eq (length_be 1 _)
  generalize be 4 f.bn = x0 at *
  generalize be 1 f.bb = x1 at *
  clear hfb
  refine run_sound (⟨fun | 8, 2 => .res (u8 98) | 7, 1 => .res (int (n + 1 : Nat)) | 40, 3 => told (str x0) [] [] | 40, 6 => told (str x1) [] [] | 40, 7 => .res (str (x0 ++ x1)) | 40, 8 => .res (str (S ++ (x0 ++ x1))) | _, _ => .no, [((2, 6), ([1, 4, 5, 6], 1))], fun | 4 => some ⟨[], [9], .take true [0,1,3,4,7,8] (.one 2 (.one 5 (.take false [6] (.one 9 (.take false [10,11] .done)))))⟩ | 24 => some ⟨[], [10], .take false [0,1,4,8] (.take true [2,5,9] (.one 3 (.one 6 (.take false [7] (.one 10 (.take false [11,12,13] .done))))))⟩ | 28 => some ⟨[], [], .take true [0,1,2,4,5,6,7,10,11] (.one 3 (.one 8 (.take true [9,12,13,14] .done)))⟩ | 40 => some ⟨[0], [6], .take false [0,1,4] (.take true [2,5] (.one 3 (.one 6 (.take false [7,8,9] .done))))⟩ | 48 => some ⟨[], [8], .take false [0,1,4] (.take true [2,5,6,7] (.one 3 (.one 8 (.take false [9,10,11] .done))))⟩ | 52 => some ⟨[], [22], .take false [0,1,3,8,10,16,18] (.take true [2,4,5,6,9,11,12,13,17,19,20,21] (.one 7 (.one 14 (.take false [15] (.one 22 (.take false [23,24,25] .done))))))⟩ | 16 => some ⟨[], [14], .take false [0,1,4,8,12] (.take true [2,5,9,13] (.one 3 (.one 6 (.take false [7] (.one 10 (.take false [11] (.one 14 (.take false [15,16,17] .done))))))))⟩ | _ => none⟩) 400 (B := bsplit (decide ((↑n : Int) < (↑(ByteArray.size z) : Int))) ((0 : Int) ≤ (↑n : Int) ∧ Option.map (fun c => u8 (UInt8.toNat c)) z[Int.toNat (↑n : Int)]? = some (u8 98) ∧ b0 = b0 ∧ b0 = b0 ∧ TCalls Tryd.prog 34 [u32 (Fm.bn f)] [] none_ (callPost (Hint.call false Unit (fun x => True) [] false (fun x => str x0) (fun x => []) fun x => none_)) ∧ ∀ (a : Unit), True → TCalls Tryd.prog 33 [u8 (Fm.bb f)] [] none_ (callPost (Hint.call false Unit (fun x => True) [] false (fun x => str x1) (fun x => []) fun x => none_)) ∧ ∀ (a : Unit), True → ByteArray.size (ByteArray.mk (List.toArray x0)) + ByteArray.size (ByteArray.mk (List.toArray x1)) ≤ 9223372036854775807 ∧ some (T.v (Value.string ((ByteArray.mk (List.toArray x0)) ++ (ByteArray.mk (List.toArray x1))))) = some (str (x0 ++ x1)) ∧ ByteArray.size (ByteArray.mk (List.toArray S)) + ByteArray.size (ByteArray.mk (List.toArray (x0 ++ x1))) ≤ 9223372036854775807 ∧ some (T.v (Value.string ((ByteArray.mk (List.toArray S)) ++ (ByteArray.mk (List.toArray (x0 ++ x1)))))) = some (str (S ++ (x0 ++ x1))) ∧ int (IntKind.wrap IntKind.i64 ((↑n : Int) + (1 : Int))) = int (n + 1) ∧ TWk Tryd.prog Γ (fin Tryd.prog Tryd.f12 [] Q) [It.code (sub (bd Tryd.f12) [1, 1, 1, 1, 0, 1, 0]), It.blk 0, It.code (sub (bd Tryd.f12) [1, 1, 1, 1, 1])] { fr := frame 260 [(1, T.ptr 0 b0 0), (4, T.v (Value.string z)), (5, str (S ++ (x0 ++ x1))), (6, int (n + 1))], ob := [(b0, Ob.cells (frC f))], gl := fun x => none }) False) (by kernel_rfl) ?_
  repeat' (first | exact rfl | exact Nat.le_of_ble_eq_true rfl | refine And.intro ?_ ?_ | intro _ | refine bsplit_mk (fun _ => ?_) (fun _ => ?_))
  all_goals first
    | exact s0
    | exact s1
    | exact nx
    | exact hz
    | exact n1T (by omega)
    | exact Int.natCast_nonneg _
    | exact catL _ _
    | exact cat_ok _ _ (by first | omega | (simp only [List.length_append]; omega))
    | (exfalso; simp only [decide_eq_true_eq, decide_eq_false_iff_not] at *; omega)
    | (simp only [decide_eq_true_eq, decide_eq_false_iff_not] at *; omega)
    | (clear nx; trace_state)
theorem renc_n (hf : f.Ok) (hS : S.length ≤ 5000) (hn : n < z.size) (hn1 : n ≤ 100) (hz : ZAt z n 110) (nx : (TWk Tryd.prog Γ (fin Tryd.prog Tryd.f12 [] Q) [.code (sub (bd Tryd.f12) [1, 1, 1, 1, 0, 1, 0]), .blk 0, .code (sub (bd Tryd.f12) [1, 1, 1, 1, 1])] ⟨frame 260 [(1, .ptr 0 b0 0), (4, .v (.string z)), (5, str (S ++ f.fb 110)), (6, int (n + 1 : Nat))], [(b0, .cells (frC f))], none_⟩)) :
    TWk Tryd.prog Γ (fin Tryd.prog Tryd.f12 [] Q) [.code (sub (bd Tryd.f12) [1, 1, 1, 1, 0, 1, 0]), .blk 0, .code (sub (bd Tryd.f12) [1, 1, 1, 1, 1])] ⟨frame 260 [(1, .ptr 0 b0 0), (4, .v (.string z)), (5, str (S)), (6, int (n : Nat))], [(b0, .cells (frC f))], none_⟩ := by
  have hfb : f.fb 110 = be 4 f.slot := rfl
  rw [hfb] at nx
  have s0 := rfour_post (f.slot) hf.slot
  have l0 : (be 4 f.slot).length ≤ 4 := Nat.le_of_eq (length_be 4 _)
  generalize be 4 f.slot = x0 at *
  clear hfb
  refine run_sound (⟨fun | 8, 2 => .res (u8 110) | 7, 1 => .res (int (n + 1 : Nat)) | 42, 3 => told (str x0) [] [] | 42, 4 => .res (str (S ++ x0)) | _, _ => .no, [((2, 6), ([1, 4, 5, 6], 1))], fun | 4 => some ⟨[], [9], .take true [0,1,3,4,7,8] (.one 2 (.one 5 (.take false [6] (.one 9 (.take false [10,11] .done)))))⟩ | 24 => some ⟨[], [10], .take false [0,1,4,8] (.take true [2,5,9] (.one 3 (.one 6 (.take false [7] (.one 10 (.take false [11,12,13] .done))))))⟩ | 28 => some ⟨[], [], .take true [0,1,2,4,5,6,7,10,11] (.one 3 (.one 8 (.take true [9,12,13,14] .done)))⟩ | 40 => some ⟨[], [6], .take false [0,1,4] (.take true [2,5] (.one 3 (.one 6 (.take false [7,8,9] .done))))⟩ | 48 => some ⟨[], [8], .take false [0,1,4] (.take true [2,5,6,7] (.one 3 (.one 8 (.take false [9,10,11] .done))))⟩ | 52 => some ⟨[], [22], .take false [0,1,3,8,10,16,18] (.take true [2,4,5,6,9,11,12,13,17,19,20,21] (.one 7 (.one 14 (.take false [15] (.one 22 (.take false [23,24,25] .done))))))⟩ | 16 => some ⟨[], [14], .take false [0,1,4,8,12] (.take true [2,5,9,13] (.one 3 (.one 6 (.take false [7] (.one 10 (.take false [11] (.one 14 (.take false [15,16,17] .done))))))))⟩ | _ => none⟩) 400 (B := bsplit (decide ((↑n : Int) < (↑(ByteArray.size z) : Int))) ((0 : Int) ≤ (↑n : Int) ∧ Option.map (fun c => u8 (UInt8.toNat c)) z[Int.toNat (↑n : Int)]? = some (u8 110) ∧ b0 = b0 ∧ TCalls Tryd.prog 34 [u32 (Fm.slot f)] [] none_ (callPost (Hint.call false Unit (fun x => True) [] false (fun x => str x0) (fun x => []) fun x => none_)) ∧ ∀ (a : Unit), True → ByteArray.size (ByteArray.mk (List.toArray S)) + ByteArray.size (ByteArray.mk (List.toArray x0)) ≤ 9223372036854775807 ∧ some (T.v (Value.string ((ByteArray.mk (List.toArray S)) ++ (ByteArray.mk (List.toArray x0))))) = some (str (S ++ x0)) ∧ int (IntKind.wrap IntKind.i64 ((↑n : Int) + (1 : Int))) = int (n + 1) ∧ TWk Tryd.prog Γ (fin Tryd.prog Tryd.f12 [] Q) [It.code (sub (bd Tryd.f12) [1, 1, 1, 1, 0, 1, 0]), It.blk 0, It.code (sub (bd Tryd.f12) [1, 1, 1, 1, 1])] { fr := frame 260 [(1, T.ptr 0 b0 0), (4, T.v (Value.string z)), (5, str (S ++ x0)), (6, int (n + 1))], ob := [(b0, Ob.cells (frC f))], gl := fun x => none }) False) (by kernel_rfl) ?_
  repeat' (first | exact rfl | exact Nat.le_of_ble_eq_true rfl | refine And.intro ?_ ?_ | intro _ | refine bsplit_mk (fun _ => ?_) (fun _ => ?_))
  all_goals first
    | exact s0
    | exact nx
    | exact hz
    | exact n1T (by omega)
    | exact Int.natCast_nonneg _
    | exact catL _ _
    | exact cat_ok _ _ (by first | omega | (simp only [List.length_append]; omega))
    | (exfalso; simp only [decide_eq_true_eq, decide_eq_false_iff_not] at *; omega)
    | (simp only [decide_eq_true_eq, decide_eq_false_iff_not] at *; omega)
    | (clear nx; trace_state)
theorem cmd_len (c : Cmd) : c.bs.length = 11 := by unfold Frm.Cmd.bs; simp [length_be]
theorem renc_c (hf : f.Ok) (hS : S.length ≤ 5000) (hn : n < z.size) (hn1 : n ≤ 100) (hz : ZAt z n 99) (nx : (TWk Tryd.prog Γ (fin Tryd.prog Tryd.f12 [] Q) [.code (sub (bd Tryd.f12) [1, 1, 1, 1, 0, 1, 0]), .blk 0, .code (sub (bd Tryd.f12) [1, 1, 1, 1, 1])] ⟨frame 260 [(1, .ptr 0 b0 0), (4, .v (.string z)), (5, str (S ++ f.fb 99)), (6, int (n + 1 : Nat))], [(b0, .cells (frC f))], none_⟩)) :
    TWk Tryd.prog Γ (fin Tryd.prog Tryd.f12 [] Q) [.code (sub (bd Tryd.f12) [1, 1, 1, 1, 0, 1, 0]), .blk 0, .code (sub (bd Tryd.f12) [1, 1, 1, 1, 1])] ⟨frame 260 [(1, .ptr 0 b0 0), (4, .v (.string z)), (5, str (S)), (6, int (n : Nat))], [(b0, .cells (frC f))], none_⟩ := by
  have hfb : f.fb 99 = f.c.bs := rfl
  rw [hfb] at nx
  have s0 := rcmd_post f.c hf.c
  have l0 : (f.c.bs).length ≤ 11 := Nat.le_of_eq (cmd_len _)
  generalize f.c.bs = x0 at *
  clear hfb
  refine run_sound (⟨fun | 8, 2 => .res (u8 99) | 7, 1 => .res (int (n + 1 : Nat)) | 44, 3 => told (str x0) [] [] | 44, 4 => .res (str (S ++ x0)) | _, _ => .no, [((2, 6), ([1, 4, 5, 6], 1))], fun | 4 => some ⟨[], [9], .take true [0,1,3,4,7,8] (.one 2 (.one 5 (.take false [6] (.one 9 (.take false [10,11] .done)))))⟩ | 24 => some ⟨[], [10], .take false [0,1,4,8] (.take true [2,5,9] (.one 3 (.one 6 (.take false [7] (.one 10 (.take false [11,12,13] .done))))))⟩ | 28 => some ⟨[], [], .take true [0,1,2,4,5,6,7,10,11] (.one 3 (.one 8 (.take true [9,12,13,14] .done)))⟩ | 40 => some ⟨[], [6], .take false [0,1,4] (.take true [2,5] (.one 3 (.one 6 (.take false [7,8,9] .done))))⟩ | 48 => some ⟨[], [8], .take false [0,1,4] (.take true [2,5,6,7] (.one 3 (.one 8 (.take false [9,10,11] .done))))⟩ | 52 => some ⟨[], [22], .take false [0,1,3,8,10,16,18] (.take true [2,4,5,6,9,11,12,13,17,19,20,21] (.one 7 (.one 14 (.take false [15] (.one 22 (.take false [23,24,25] .done))))))⟩ | 16 => some ⟨[], [14], .take false [0,1,4,8,12] (.take true [2,5,9,13] (.one 3 (.one 6 (.take false [7] (.one 10 (.take false [11] (.one 14 (.take false [15,16,17] .done))))))))⟩ | _ => none⟩) 400 (B := bsplit (decide ((↑n : Int) < (↑(ByteArray.size z) : Int))) ((0 : Int) ≤ (↑n : Int) ∧ Option.map (fun c => u8 (UInt8.toNat c)) z[Int.toNat (↑n : Int)]? = some (u8 99) ∧ b0 = b0 ∧ TCalls Tryd.prog 36 [T.agg [u8 (Cmd.k (Fm.c f)), u8 (Cmd.n (Fm.c f)), u8 (Cmd.l (Fm.c f)), u32 (Cmd.e (Fm.c f)), u32 (Cmd.q (Fm.c f))]] [] none_ (callPost (Hint.call false Unit (fun x => True) [] false (fun x => str x0) (fun x => []) fun x => none_)) ∧ ∀ (a : Unit), True → ByteArray.size (ByteArray.mk (List.toArray S)) + ByteArray.size (ByteArray.mk (List.toArray x0)) ≤ 9223372036854775807 ∧ some (T.v (Value.string ((ByteArray.mk (List.toArray S)) ++ (ByteArray.mk (List.toArray x0))))) = some (str (S ++ x0)) ∧ int (IntKind.wrap IntKind.i64 ((↑n : Int) + (1 : Int))) = int (n + 1) ∧ TWk Tryd.prog Γ (fin Tryd.prog Tryd.f12 [] Q) [It.code (sub (bd Tryd.f12) [1, 1, 1, 1, 0, 1, 0]), It.blk 0, It.code (sub (bd Tryd.f12) [1, 1, 1, 1, 1])] { fr := frame 260 [(1, T.ptr 0 b0 0), (4, T.v (Value.string z)), (5, str (S ++ x0)), (6, int (n + 1))], ob := [(b0, Ob.cells (frC f))], gl := fun x => none }) False) (by kernel_rfl) ?_
  repeat' (first | exact rfl | exact Nat.le_of_ble_eq_true rfl | refine And.intro ?_ ?_ | intro _ | refine bsplit_mk (fun _ => ?_) (fun _ => ?_))
  all_goals first
    | exact s0
    | exact nx
    | exact hz
    | exact n1T (by omega)
    | exact Int.natCast_nonneg _
    | exact catL _ _
    | exact cat_ok _ _ (by first | omega | (simp only [List.length_append]; omega))
    | (exfalso; simp only [decide_eq_true_eq, decide_eq_false_iff_not] at *; omega)
    | (simp only [decide_eq_true_eq, decide_eq_false_iff_not] at *; omega)
    | (clear nx; trace_state)
theorem strne (x : List UInt8) : decide ((⟨x.toArray⟩ : ByteArray) = ByteArray.mk #[]) = decide (x = []) := by
  rw [Bool.eq_iff_iff, decide_eq_true_eq, decide_eq_true_eq]
  constructor
  · intro e; injection e with e; simpa using e
  · rintro rfl; rfl
theorem renc_v (hf : f.Ok) (hS : S.length ≤ 5000) (hn : n < z.size) (hn1 : n ≤ 100) (hz : ZAt z n 118) (hbad : f.may 118 = false → Q (.tup [str [], bool false]) [] none_) (nx : f.may 118 = true → (TWk Tryd.prog Γ (fin Tryd.prog Tryd.f12 [] Q) [.code (sub (bd Tryd.f12) [1, 1, 1, 1, 0, 1, 0]), .blk 0, .code (sub (bd Tryd.f12) [1, 1, 1, 1, 1])] ⟨frame 260 [(1, .ptr 0 b0 0), (4, .v (.string z)), (5, str (S ++ f.fb 118)), (6, int (n + 1 : Nat))], [(b0, .cells (frC f))], none_⟩)) :
    TWk Tryd.prog Γ (fin Tryd.prog Tryd.f12 [] Q) [.code (sub (bd Tryd.f12) [1, 1, 1, 1, 0, 1, 0]), .blk 0, .code (sub (bd Tryd.f12) [1, 1, 1, 1, 1])] ⟨frame 260 [(1, .ptr 0 b0 0), (4, .v (.string z)), (5, str (S)), (6, int (n : Nat))], [(b0, .cells (frC f))], none_⟩ := by
  have hfb : f.fb 118 = (be 1 (one f.has) ++ be 1 f.x.length) ++ f.x := by rw [List.append_assoc, be1 f.x.length]; rfl
  rw [hfb] at nx
  have hm : f.may 118 = (decide (f.x.length ≤ 32) && (f.has || decide (f.x = []))) := rfl
  rw [hm] at nx hbad
  have s0 := rflag_post f.has
  have l0 : (be 1 (one f.has)).length ≤ 1 := Nat.le_of_eq (length_be 1 _)
  have s1 := fun h : f.x.length < 256 => rone_post f.x.length h
  have w1 := fun h : f.x.length < 256 => w8 h
  have l1 : (be 1 f.x.length).length ≤ 1 := Nat.le_of_eq (length_be 1 _)
  generalize be 1 (one f.has) = x0 at *
  generalize be 1 f.x.length = x1 at *
  have hsz : (⟨f.x.toArray⟩ : ByteArray).size = f.x.length := by show f.x.toArray.size = _; simp
  have hne := strne f.x
  have hfs : str f.x = .v (.string ⟨f.x.toArray⟩) := rfl
  clear hfb hm
  by_cases hl : f.x.length ≤ 32
  · have w1 := w1 (by omega)
    have s1 := s1 (by omega)
    rw [← hsz] at w1
    rw [decide_eq_true hl, Bool.true_and] at nx hbad
    rw [← hne] at nx hbad
    refine run_sound (⟨fun | 8, 2 => .res (u8 118) | 7, 1 => .res (int (n + 1 : Nat)) | 28, 3 => told (str x0) [] [] | 28, 7 => .res (u8 f.x.length) | 28, 8 => told (str x1) [] [] | 28, 9 => .res (str (x0 ++ x1)) | 28, 12 => .res (str ((x0 ++ x1) ++ f.x)) | 28, 13 => .res (str (S ++ ((x0 ++ x1) ++ f.x))) | _, _ => .no, [((2, 6), ([1, 4, 5, 6], 1))], fun | 4 => some ⟨[], [9], .take true [0,1,3,4,7,8] (.one 2 (.one 5 (.take false [6] (.one 9 (.take false [10,11] .done)))))⟩ | 24 => some ⟨[], [10], .take false [0,1,4,8] (.take true [2,5,9] (.one 3 (.one 6 (.take false [7] (.one 10 (.take false [11,12,13] .done))))))⟩ | 28 => some ⟨[0], [], .take true [0,1,2,4,5,6,7,10,11] (.one 3 (.one 8 (.take true [9,12,13,14] .done)))⟩ | 40 => some ⟨[], [6], .take false [0,1,4] (.take true [2,5] (.one 3 (.one 6 (.take false [7,8,9] .done))))⟩ | 48 => some ⟨[], [8], .take false [0,1,4] (.take true [2,5,6,7] (.one 3 (.one 8 (.take false [9,10,11] .done))))⟩ | 52 => some ⟨[], [22], .take false [0,1,3,8,10,16,18] (.take true [2,4,5,6,9,11,12,13,17,19,20,21] (.one 7 (.one 14 (.take false [15] (.one 22 (.take false [23,24,25] .done))))))⟩ | 16 => some ⟨[], [14], .take false [0,1,4,8,12] (.take true [2,5,9,13] (.one 3 (.one 6 (.take false [7] (.one 10 (.take false [11] (.one 14 (.take false [15,16,17] .done))))))))⟩ | _ => none⟩) 400 (B := bsplit (decide ((↑n : Int) < (↑(ByteArray.size z) : Int))) ((0 : Int) ≤ (↑n : Int) ∧ Option.map (fun c => u8 (UInt8.toNat c)) z[Int.toNat (↑n : Int)]? = some (u8 118) ∧ b0 = b0 ∧ bsplit (decide ((↑(ByteArray.size (ByteArray.mk (List.toArray (Fm.x f)))) : Int) > (32 : Int))) (Q (T.tup [str [], bool false]) [] fun x => none) (b0 = b0 ∧ bsplit (!Fm.has f) (b0 = b0 ∧ bsplit (!decide ((ByteArray.mk (List.toArray (Fm.x f))) = (ByteArray.mk (#[])))) (Q (T.tup [str [], bool false]) [] fun x => none) (b0 = b0 ∧ b0 = b0 ∧ u8 (IntKind.wrap IntKind.u8 (↑(ByteArray.size (ByteArray.mk (List.toArray (Fm.x f)))) : Int)) = u8 (List.length (Fm.x f)) ∧ b0 = b0 ∧ TCalls Tryd.prog 35 [bool (Fm.has f)] [] none_ (callPost (Hint.call false Unit (fun x => True) [] false (fun x => str x0) (fun x => []) fun x => none_)) ∧ ∀ (a : Unit), True → TCalls Tryd.prog 33 [u8 (List.length (Fm.x f))] [] none_ (callPost (Hint.call false Unit (fun x => True) [] false (fun x => str x1) (fun x => []) fun x => none_)) ∧ ∀ (a : Unit), True → ByteArray.size (ByteArray.mk (List.toArray x0)) + ByteArray.size (ByteArray.mk (List.toArray x1)) ≤ 9223372036854775807 ∧ some (T.v (Value.string ((ByteArray.mk (List.toArray x0)) ++ (ByteArray.mk (List.toArray x1))))) = some (str (x0 ++ x1)) ∧ ByteArray.size (ByteArray.mk (List.toArray (x0 ++ x1))) + ByteArray.size (ByteArray.mk (List.toArray (Fm.x f))) ≤ 9223372036854775807 ∧ some (T.v (Value.string ((ByteArray.mk (List.toArray (x0 ++ x1))) ++ (ByteArray.mk (List.toArray (Fm.x f)))))) = some (str (x0 ++ x1 ++ Fm.x f)) ∧ ByteArray.size (ByteArray.mk (List.toArray S)) + ByteArray.size (ByteArray.mk (List.toArray (x0 ++ x1 ++ Fm.x f))) ≤ 9223372036854775807 ∧ some (T.v (Value.string ((ByteArray.mk (List.toArray S)) ++ (ByteArray.mk (List.toArray (x0 ++ x1 ++ Fm.x f)))))) = some (str (S ++ (x0 ++ x1 ++ Fm.x f))) ∧ int (IntKind.wrap IntKind.i64 ((↑n : Int) + (1 : Int))) = int (n + 1) ∧ TWk Tryd.prog Γ (fin Tryd.prog Tryd.f12 [] Q) [It.code (sub (bd Tryd.f12) [1, 1, 1, 1, 0, 1, 0]), It.blk 0, It.code (sub (bd Tryd.f12) [1, 1, 1, 1, 1])] { fr := frame 260 [(1, T.ptr 0 b0 0), (4, T.v (Value.string z)), (5, str (S ++ (x0 ++ x1 ++ Fm.x f))), (6, int (n + 1))], ob := [(b0, Ob.cells (frC f))], gl := fun x => none })) (b0 = b0 ∧ b0 = b0 ∧ u8 (IntKind.wrap IntKind.u8 (↑(ByteArray.size (ByteArray.mk (List.toArray (Fm.x f)))) : Int)) = u8 (List.length (Fm.x f)) ∧ b0 = b0 ∧ TCalls Tryd.prog 35 [bool (Fm.has f)] [] none_ (callPost (Hint.call false Unit (fun x => True) [] false (fun x => str x0) (fun x => []) fun x => none_)) ∧ ∀ (a : Unit), True → TCalls Tryd.prog 33 [u8 (List.length (Fm.x f))] [] none_ (callPost (Hint.call false Unit (fun x => True) [] false (fun x => str x1) (fun x => []) fun x => none_)) ∧ ∀ (a : Unit), True → ByteArray.size (ByteArray.mk (List.toArray x0)) + ByteArray.size (ByteArray.mk (List.toArray x1)) ≤ 9223372036854775807 ∧ some (T.v (Value.string ((ByteArray.mk (List.toArray x0)) ++ (ByteArray.mk (List.toArray x1))))) = some (str (x0 ++ x1)) ∧ ByteArray.size (ByteArray.mk (List.toArray (x0 ++ x1))) + ByteArray.size (ByteArray.mk (List.toArray (Fm.x f))) ≤ 9223372036854775807 ∧ some (T.v (Value.string ((ByteArray.mk (List.toArray (x0 ++ x1))) ++ (ByteArray.mk (List.toArray (Fm.x f)))))) = some (str (x0 ++ x1 ++ Fm.x f)) ∧ ByteArray.size (ByteArray.mk (List.toArray S)) + ByteArray.size (ByteArray.mk (List.toArray (x0 ++ x1 ++ Fm.x f))) ≤ 9223372036854775807 ∧ some (T.v (Value.string ((ByteArray.mk (List.toArray S)) ++ (ByteArray.mk (List.toArray (x0 ++ x1 ++ Fm.x f)))))) = some (str (S ++ (x0 ++ x1 ++ Fm.x f))) ∧ int (IntKind.wrap IntKind.i64 ((↑n : Int) + (1 : Int))) = int (n + 1) ∧ TWk Tryd.prog Γ (fin Tryd.prog Tryd.f12 [] Q) [It.code (sub (bd Tryd.f12) [1, 1, 1, 1, 0, 1, 0]), It.blk 0, It.code (sub (bd Tryd.f12) [1, 1, 1, 1, 1])] { fr := frame 260 [(1, T.ptr 0 b0 0), (4, T.v (Value.string z)), (5, str (S ++ (x0 ++ x1 ++ Fm.x f))), (6, int (n + 1))], ob := [(b0, Ob.cells (frC f))], gl := fun x => none }))) False) (by kernel_rfl) ?_
    repeat' (first | exact rfl | exact Nat.le_of_ble_eq_true rfl | refine And.intro ?_ ?_ | intro _ | refine bsplit_mk (fun _ => ?_) (fun _ => ?_))
    all_goals first
      | exact s0
      | exact s1
      | (rw [hsz]; rw [hsz] at w1; exact w1)
      | exact w1
      | exact hz
      | exact n1T (by omega)
      | exact Int.natCast_nonneg _
      | exact catL _ _
      | exact cat_ok _ _ (by first | omega | (simp only [List.length_append]; omega))
      | (exfalso; have g := of_decide_eq_true ‹decide ((((⟨f.x.toArray⟩ : ByteArray).size : Nat) : Int) > 32) = true›; rw [hsz] at g; omega)
      | exact nx (by simp_all)
      | exact hbad (by simp_all)
      | (exfalso; simp only [decide_eq_true_eq, decide_eq_false_iff_not, hsz] at *; omega)
      | (clear nx hbad; trace_state)
  · rw [decide_eq_false hl, Bool.false_and] at hbad
    refine run_sound (⟨fun | 8, 2 => .res (u8 118) | 7, 1 => .res (int (n + 1 : Nat)) | 28, 3 => .no | _, _ => .no, [((0, 28), ([1, 4, 5, 6], 1))], fun | 4 => some ⟨[], [9], .take true [0,1,3,4,7,8] (.one 2 (.one 5 (.take false [6] (.one 9 (.take false [10,11] .done)))))⟩ | 24 => some ⟨[], [10], .take false [0,1,4,8] (.take true [2,5,9] (.one 3 (.one 6 (.take false [7] (.one 10 (.take false [11,12,13] .done))))))⟩ | 28 => some ⟨[0], [], .take true [0,1,2,4,5,6,7,10,11] (.one 3 (.one 8 (.take true [9,12,13,14] .done)))⟩ | 40 => some ⟨[], [6], .take false [0,1,4] (.take true [2,5] (.one 3 (.one 6 (.take false [7,8,9] .done))))⟩ | 48 => some ⟨[], [8], .take false [0,1,4] (.take true [2,5,6,7] (.one 3 (.one 8 (.take false [9,10,11] .done))))⟩ | 52 => some ⟨[], [22], .take false [0,1,3,8,10,16,18] (.take true [2,4,5,6,9,11,12,13,17,19,20,21] (.one 7 (.one 14 (.take false [15] (.one 22 (.take false [23,24,25] .done))))))⟩ | 16 => some ⟨[], [14], .take false [0,1,4,8,12] (.take true [2,5,9,13] (.one 3 (.one 6 (.take false [7] (.one 10 (.take false [11] (.one 14 (.take false [15,16,17] .done))))))))⟩ | _ => none⟩) 400 (B := bsplit (decide ((↑n : Int) < (↑(ByteArray.size z) : Int))) ((0 : Int) ≤ (↑n : Int) ∧ Option.map (fun c => u8 (UInt8.toNat c)) z[Int.toNat (↑n : Int)]? = some (u8 118) ∧ b0 = b0 ∧ bsplit (decide ((↑(ByteArray.size (ByteArray.mk (List.toArray (Fm.x f)))) : Int) > (32 : Int))) (Q (T.tup [str [], bool false]) [] fun x => none) (b0 = b0 ∧ bsplit (!Fm.has f) (b0 = b0 ∧ bsplit (!decide ((ByteArray.mk (List.toArray (Fm.x f))) = (ByteArray.mk (#[])))) (Q (T.tup [str [], bool false]) [] fun x => none) (TWk Tryd.prog Γ (fin Tryd.prog Tryd.f12 [] Q) [It.code (sub (bd Tryd.f12) [1, 1, 1, 1, 0, 1, 0, 0, 1, 0, 0, 1, 0, 1, 1, 1, 1, 1, 1, 1, 0, 1]), It.blk 2, It.blk 1, It.code (sub (bd Tryd.f12) [1, 1, 1, 1, 0, 1, 0, 0, 1, 1]), It.code (sub (bd Tryd.f12) [1, 1, 1, 1, 0, 1, 0]), It.blk 0, It.code (sub (bd Tryd.f12) [1, 1, 1, 1, 1])] { fr := frame 260 [(1, T.ptr 0 b0 0), (4, T.v (Value.string z)), (5, str S), (6, int n)], ob := [(b0, Ob.cells (frC f))], gl := fun x => none })) (TWk Tryd.prog Γ (fin Tryd.prog Tryd.f12 [] Q) [It.code (sub (bd Tryd.f12) [1, 1, 1, 1, 0, 1, 0, 0, 1, 0, 0, 1, 0, 1, 1, 1, 1, 1, 1, 1, 0, 1]), It.blk 2, It.blk 1, It.code (sub (bd Tryd.f12) [1, 1, 1, 1, 0, 1, 0, 0, 1, 1]), It.code (sub (bd Tryd.f12) [1, 1, 1, 1, 0, 1, 0]), It.blk 0, It.code (sub (bd Tryd.f12) [1, 1, 1, 1, 1])] { fr := frame 260 [(1, T.ptr 0 b0 0), (4, T.v (Value.string z)), (5, str S), (6, int n)], ob := [(b0, Ob.cells (frC f))], gl := fun x => none }))) False) (by kernel_rfl) ?_
    repeat' (first | exact rfl | exact Nat.le_of_ble_eq_true rfl | refine And.intro ?_ ?_ | intro _ | refine bsplit_mk (fun _ => ?_) (fun _ => ?_))
    all_goals first
      | exact hz
      | exact Int.natCast_nonneg _
      | exact hbad rfl
      | (exfalso; simp only [decide_eq_true_eq, decide_eq_false_iff_not, hsz] at *; omega)
      | (exfalso; simp only [hsz] at *; omega)
      | (clear nx hbad; trace_state)
theorem lv_cell (f : Fm) (j : Nat) (h : j < 8) : ([u8 f.lv.l0, u8 f.lv.l1, u8 f.lv.l2, u8 f.lv.l3, u8 f.lv.l4, u8 f.lv.l5, u8 f.lv.l6, u8 f.lv.l7, .sl 8 (Row.aggs entC f.es)] : List T)[j]? = some (u8 (lvAt f.lv j)) := by
  rcases (by omega : j = 0 ∨ j = 1 ∨ j = 2 ∨ j = 3 ∨ j = 4 ∨ j = 5 ∨ j = 6 ∨ j = 7) with rfl | rfl | rfl | rfl | rfl | rfl | rfl | rfl <;> rfl
theorem frC_lv (f : Fm) (j : Nat) (h : j < 8) : (frC f)[25 + j]? = some (u8 (lvAt f.lv j)) := by
  rcases (by omega : j = 0 ∨ j = 1 ∨ j = 2 ∨ j = 3 ∨ j = 4 ∨ j = 5 ∨ j = 6 ∨ j = 7) with rfl | rfl | rfl | rfl | rfl | rfl | rfl | rfl <;> rfl
theorem renc_lv (hf : f.Ok) (hS : S.length ≤ 7000) (hn1 : n ≤ 100) (nx : TWk Tryd.prog Γ (fin Tryd.prog Tryd.f12 [] Q) [.code (sub (bd Tryd.f12) [1, 1, 1, 1, 0, 1, 0]), .blk 0, .code (sub (bd Tryd.f12) [1, 1, 1, 1, 1])] ⟨frame 260 [(1, .ptr 0 b0 0), (4, .v (.string z)), (5, str (S ++ f.lv.bs)), (6, int (n + 1 : Nat))], [(b0, .cells (frC f))], none_⟩) : ∀ (g j : Nat), j + g = 8 →
    TWk Tryd.prog Γ (fin Tryd.prog Tryd.f12 [] Q) [.code (sub (bd Tryd.f12) [1, 1, 1, 1, 0, 1, 0, 0, 1, 0, 0, 1, 0, 1, 1, 1, 1, 1, 1, 1, 1, 1, 1, 1, 1, 1, 1, 1, 1, 1, 1, 1, 1, 1, 1, 1, 1, 1, 0, 1, 1, 1, 1, 0]), .blk 7, .blk 2, .blk 1, .code (sub (bd Tryd.f12) [1, 1, 1, 1, 0, 1, 0, 0, 1, 1]), .code (sub (bd Tryd.f12) [1, 1, 1, 1, 0, 1, 0]), .blk 0, .code (sub (bd Tryd.f12) [1, 1, 1, 1, 1])] ⟨frame 260 [(1, .ptr 0 b0 0), (4, .v (.string z)), (5, str (S ++ f.lv.bs.take j)), (6, int (n : Nat)), (8, int (j : Nat))], [(b0, .cells (frC f))], none_⟩ := by
  intro g
  induction g with
  | zero =>
    intro j hj
    obtain rfl : j = 8 := by omega
    have e : f.lv.bs.take 8 = f.lv.bs := rfl
    rw [e]
    generalize f.lv.bs = x0 at *
    generalize frC f = C at *
    refine run_sound (⟨fun | 7, 1 => .res (int (n + 1 : Nat)) | _, _ => .no, [((2, 54), ([1, 4, 5, 6, 8], 1)), ((2, 6), ([1, 4, 5, 6], 1)), ((1, 8), ([1, 4, 5, 6, 8], 1))], fun | 4 => some ⟨[], [9], .take true [0,1,3,4,7,8] (.one 2 (.one 5 (.take false [6] (.one 9 (.take false [10,11] .done)))))⟩ | 24 => some ⟨[], [10], .take false [0,1,4,8] (.take true [2,5,9] (.one 3 (.one 6 (.take false [7] (.one 10 (.take false [11,12,13] .done))))))⟩ | 28 => some ⟨[], [], .take true [0,1,2,4,5,6,7,10,11] (.one 3 (.one 8 (.take true [9,12,13,14] .done)))⟩ | 40 => some ⟨[], [6], .take false [0,1,4] (.take true [2,5] (.one 3 (.one 6 (.take false [7,8,9] .done))))⟩ | 48 => some ⟨[], [8], .take false [0,1,4] (.take true [2,5,6,7] (.one 3 (.one 8 (.take false [9,10,11] .done))))⟩ | 52 => some ⟨[], [22], .take false [0,1,3,8,10,16,18] (.take true [2,4,5,6,9,11,12,13,17,19,20,21] (.one 7 (.one 14 (.take false [15] (.one 22 (.take false [23,24,25] .done))))))⟩ | 16 => some ⟨[], [14], .take false [0,1,4,8,12] (.take true [2,5,9,13] (.one 3 (.one 6 (.take false [7] (.one 10 (.take false [11] (.one 14 (.take false [15,16,17] .done))))))))⟩ | _ => none⟩) 400 (B := int (IntKind.wrap IntKind.i64 ((↑n : Int) + (1 : Int))) = int (n + 1) ∧ TWk Tryd.prog Γ (fin Tryd.prog Tryd.f12 [] Q) [It.code (sub (bd Tryd.f12) [1, 1, 1, 1, 0, 1, 0]), It.blk 0, It.code (sub (bd Tryd.f12) [1, 1, 1, 1, 1])] { fr := frame 260 [(1, T.ptr 0 b0 0), (4, T.v (Value.string z)), (5, str (S ++ x0)), (6, int (n + 1))], ob := [(b0, Ob.cells C)], gl := fun x => none }) (by kernel_rfl) ?_
    repeat' (first | exact rfl | exact Nat.le_of_ble_eq_true rfl | refine And.intro ?_ ?_ | intro _ | refine bsplit_mk (fun _ => ?_) (fun _ => ?_))
    all_goals first
      | exact nx
      | exact n1T (by omega)
      | (exfalso; rename_i h; simp at h; done)
      | trace_state
  | succ g ih =>
    intro j hj
    have nx2 := ih (j + 1) (by omega)
    rw [lv_take f.lv j (by omega), ← List.append_assoc] at nx2
    have s0 := rone_post (lvAt f.lv j) (lvAt_lt hf.lv j)
    have l0 : (be 1 (lvAt f.lv j)).length ≤ 1 := Nat.le_of_eq (length_be 1 _)
    have l1 : (f.lv.bs.take j).length ≤ 8 := by rw [List.length_take]; omega
    have hx : ((frC f).drop (25 + (j : Int).toNat * 1))[0]? = some (u8 (lvAt f.lv j)) := by
      rw [List.getElem?_drop, Nat.mul_one, Nat.add_zero, Int.toNat_natCast]; exact frC_lv f j (by omega)
    generalize frC f = C at *
    generalize be 1 (lvAt f.lv j) = x0 at *
    generalize f.lv.bs.take j = x1 at *
    clear ih nx
    refine run_sound (⟨fun | 56, 4 => .res (u8 (lvAt f.lv j)) | 56, 5 => told (str x0) [] [] | 56, 6 => .res (str (S ++ x1 ++ x0)) | 55, 1 => .res (int (j + 1 : Nat)) | _, _ => .no, [((2, 54), ([1, 4, 5, 6, 8], 1)), ((0, 7), ([1, 4, 5, 6], 1))], fun | 4 => some ⟨[], [9], .take true [0,1,3,4,7,8] (.one 2 (.one 5 (.take false [6] (.one 9 (.take false [10,11] .done)))))⟩ | 24 => some ⟨[], [10], .take false [0,1,4,8] (.take true [2,5,9] (.one 3 (.one 6 (.take false [7] (.one 10 (.take false [11,12,13] .done))))))⟩ | 28 => some ⟨[], [], .take true [0,1,2,4,5,6,7,10,11] (.one 3 (.one 8 (.take true [9,12,13,14] .done)))⟩ | 40 => some ⟨[], [6], .take false [0,1,4] (.take true [2,5] (.one 3 (.one 6 (.take false [7,8,9] .done))))⟩ | 48 => some ⟨[], [8], .take false [0,1,4] (.take true [2,5,6,7] (.one 3 (.one 8 (.take false [9,10,11] .done))))⟩ | 52 => some ⟨[], [22], .take false [0,1,3,8,10,16,18] (.take true [2,4,5,6,9,11,12,13,17,19,20,21] (.one 7 (.one 14 (.take false [15] (.one 22 (.take false [23,24,25] .done))))))⟩ | 16 => some ⟨[], [14], .take false [0,1,4,8,12] (.take true [2,5,9,13] (.one 3 (.one 6 (.take false [7] (.one 10 (.take false [11] (.one 14 (.take false [15,16,17] .done))))))))⟩ | _ => none⟩) 400 (B := bsplit (decide ((↑j : Int) < (8 : Int))) (((0 : Int) ≤ (↑j : Int) ∧ (↑j : Int) < (↑(8 : Nat) : Int)) ∧ b0 = b0 ∧ (List.drop (25 + Int.toNat (↑j : Int) * nat_lit 1) C)[0]? = some (u8 (lvAt (Fm.lv f) j)) ∧ TCalls Tryd.prog 33 [u8 (lvAt (Fm.lv f) j)] [] none_ (callPost (Hint.call false Unit (fun x => True) [] false (fun x => str x0) (fun x => []) fun x => none_)) ∧ ∀ (a : Unit), True → ByteArray.size (ByteArray.mk (List.toArray (S ++ x1))) + ByteArray.size (ByteArray.mk (List.toArray x0)) ≤ 9223372036854775807 ∧ some (T.v (Value.string ((ByteArray.mk (List.toArray (S ++ x1))) ++ (ByteArray.mk (List.toArray x0))))) = some (str (S ++ x1 ++ x0)) ∧ int (IntKind.wrap IntKind.i64 ((↑j : Int) + (1 : Int))) = int (j + 1) ∧ TWk Tryd.prog Γ (fin Tryd.prog Tryd.f12 [] Q) [It.code (sub (bd Tryd.f12) [1, 1, 1, 1, 0, 1, 0, 0, 1, 0, 0, 1, 0, 1, 1, 1, 1, 1, 1, 1, 1, 1, 1, 1, 1, 1, 1, 1, 1, 1, 1, 1, 1, 1, 1, 1, 1, 1, 0, 1, 1, 1, 1, 0]), It.blk 7, It.blk 2, It.blk 1, It.code (sub (bd Tryd.f12) [1, 1, 1, 1, 0, 1, 0, 0, 1, 1]), It.code (sub (bd Tryd.f12) [1, 1, 1, 1, 0, 1, 0]), It.blk 0, It.code (sub (bd Tryd.f12) [1, 1, 1, 1, 1])] { fr := frame 260 [(1, T.ptr 0 b0 0), (4, T.v (Value.string z)), (5, str (S ++ x1 ++ x0)), (6, int n), (8, int (j + 1))], ob := [(b0, Ob.cells C)], gl := fun x => none }) (TWk Tryd.prog Γ (fin Tryd.prog Tryd.f12 [] Q) [It.code (sub (bd Tryd.f12) [1, 1, 1, 1, 0, 1, 0, 0, 1, 1]), It.code (sub (bd Tryd.f12) [1, 1, 1, 1, 0, 1, 0]), It.blk 0, It.code (sub (bd Tryd.f12) [1, 1, 1, 1, 1])] { fr := frame 260 [(1, T.ptr 0 b0 0), (4, T.v (Value.string z)), (5, str (S ++ x1)), (6, int n)], ob := [(b0, Ob.cells C)], gl := fun x => none })) (by kernel_rfl) ?_
    repeat' (first | exact rfl | exact Nat.le_of_ble_eq_true rfl | refine And.intro ?_ ?_ | intro _ | refine bsplit_mk (fun _ => ?_) (fun _ => ?_))
    all_goals first
      | exact s0
      | exact hx
      | exact nx2
      | exact n1T (by omega)
      | exact Int.natCast_nonneg _
      | exact catL _ _
      | exact cat_ok _ _ (by first | omega | (simp only [List.length_append]; omega))
      | (exfalso; simp only [decide_eq_true_eq, decide_eq_false_iff_not] at *; omega)
      | (simp only [decide_eq_true_eq, decide_eq_false_iff_not] at *; omega)
      | (rw [← hx]; simp; done)
      | (clear nx2; trace_state)
theorem mem_len (m : Mem) : m.bs.length = 3 := by unfold Frm.Mem.bs; simp [length_be]
theorem ent_len (m : Ent) : m.bs.length = 20 := by unfold Frm.Ent.bs; simp [length_be, cmd_len]
theorem flat_len {α : Type} (F : α → List UInt8) (k : Nat) (h : ∀ a, (F a).length = k) : ∀ l : List α, (l.flatMap F).length = k * l.length
  | [] => rfl
  | a :: l => by rw [List.flatMap_cons, List.length_append, h, flat_len F k h l, List.length_cons, Nat.mul_succ]; omega
theorem renc_ms (hf : f.Ok) (hS : S.length ≤ 6000) (hn1 : n ≤ 100) (nx : TWk Tryd.prog Γ (fin Tryd.prog Tryd.f12 [] Q) [.code (sub (bd Tryd.f12) [1, 1, 1, 1, 0, 1, 0]), .blk 0, .code (sub (bd Tryd.f12) [1, 1, 1, 1, 1])] ⟨frame 260 [(1, .ptr 0 b0 0), (4, .v (.string z)), (5, str (S ++ (f.ms.flatMap Mem.bs ++ f.lv.bs))), (6, int (n + 1 : Nat))], [(b0, .cells (frC f))], none_⟩) : ∀ (r d : List Mem), f.ms = d ++ r →
    TWk Tryd.prog Γ (fin Tryd.prog Tryd.f12 [] Q) [.code (sub (bd Tryd.f12) [1, 1, 1, 1, 0, 1, 0, 0, 1, 0, 0, 1, 0, 1, 1, 1, 1, 1, 1, 1, 1, 1, 1, 1, 1, 1, 1, 1, 1, 1, 1, 1, 1, 1, 1, 1, 1, 1, 0, 1, 1, 0, 1, 0]), .blk 5, .code (sub (bd Tryd.f12) ptFQ1), .blk 2, .blk 1, .code (sub (bd Tryd.f12) [1, 1, 1, 1, 0, 1, 0, 0, 1, 1]), .code (sub (bd Tryd.f12) [1, 1, 1, 1, 0, 1, 0]), .blk 0, .code (sub (bd Tryd.f12) [1, 1, 1, 1, 1])] ⟨frame 260 [(1, .ptr 0 b0 0), (4, .v (.string z)), (5, str (S ++ d.flatMap Mem.bs)), (6, int (n : Nat)), (7, int (d.length : Nat))], [(b0, .cells (frC f))], none_⟩ := by
  have hal : (Row.aggs memC f.ms).length = f.ms.length := Row.aggs_len f.ms
  have hlm := hf.ms
  have hml := flat_len Mem.bs 3 mem_len
  intro r
  induction r with
  | nil =>
    intro d h
    have e : d = f.ms := by rw [h]; simp
    subst e
    have lv := renc_lv Γ b0 f z (S ++ f.ms.flatMap Mem.bs) n Q hf (by rw [List.length_append, hml]; omega) hn1 (by rw [List.append_assoc]; exact nx) 8 0 rfl
    rw [List.take_zero, List.append_nil] at lv
    clear nx
    generalize f.ms.flatMap Mem.bs = x0 at *
    have hlt : decide ((f.ms.length : Int) < ((Row.aggs memC f.ms).length : Int)) = false := decide_eq_false (by omega)
    refine run_sound (⟨fun | 52, 4 => .res (.agg (memC ⟨0, 0, false⟩)) | _, _ => .no, [((2, 50), ([1, 4, 5, 6, 7], 1)), ((2, 54), ([1, 4, 5, 6, 8], 1)), ((1, 6), ([1, 4, 5, 6, 7], 1))], fun | 4 => some ⟨[], [9], .take true [0,1,3,4,7,8] (.one 2 (.one 5 (.take false [6] (.one 9 (.take false [10,11] .done)))))⟩ | 24 => some ⟨[], [10], .take false [0,1,4,8] (.take true [2,5,9] (.one 3 (.one 6 (.take false [7] (.one 10 (.take false [11,12,13] .done))))))⟩ | 28 => some ⟨[], [], .take true [0,1,2,4,5,6,7,10,11] (.one 3 (.one 8 (.take true [9,12,13,14] .done)))⟩ | 40 => some ⟨[], [6], .take false [0,1,4] (.take true [2,5] (.one 3 (.one 6 (.take false [7,8,9] .done))))⟩ | 48 => some ⟨[], [8], .take false [0,1,4] (.take true [2,5,6,7] (.one 3 (.one 8 (.take false [9,10,11] .done))))⟩ | 52 => some ⟨[], [22], .take false [0,1,3,8,10,16,18] (.take true [2,4,5,6,9,11,12,13,17,19,20,21] (.one 7 (.one 14 (.take false [15] (.one 22 (.take false [23,24,25] .done))))))⟩ | 16 => some ⟨[], [14], .take false [0,1,4,8,12] (.take true [2,5,9,13] (.one 3 (.one 6 (.take false [7] (.one 10 (.take false [11] (.one 14 (.take false [15,16,17] .done))))))))⟩ | _ => none⟩) 400 (B := b0 = b0 ∧ bsplit (decide ((↑(List.length (Fm.ms f)) : Int) < (↑(List.length (List.map (fun x => T.agg (memC x)) (Fm.ms f))) : Int))) (TWk Tryd.prog Γ (fin Tryd.prog Tryd.f12 [] Q) [It.code (sub (bd Tryd.f12) [1, 1, 1, 1, 0, 1, 0, 0, 1, 0, 0, 1, 0, 1, 1, 1, 1, 1, 1, 1, 1, 1, 1, 1, 1, 1, 1, 1, 1, 1, 1, 1, 1, 1, 1, 1, 1, 1, 0, 1, 1, 0, 1, 0, 0, 1]), It.code (sub (bd Tryd.f12) [1, 1, 1, 1, 0, 1, 0, 0, 1, 0, 0, 1, 0, 1, 1, 1, 1, 1, 1, 1, 1, 1, 1, 1, 1, 1, 1, 1, 1, 1, 1, 1, 1, 1, 1, 1, 1, 1, 0, 1, 1, 0, 1, 0]), It.blk 5, It.code (sub (bd Tryd.f12) ptFQ1), It.blk 2, It.blk 1, It.code (sub (bd Tryd.f12) [1, 1, 1, 1, 0, 1, 0, 0, 1, 1]), It.code (sub (bd Tryd.f12) [1, 1, 1, 1, 0, 1, 0]), It.blk 0, It.code (sub (bd Tryd.f12) [1, 1, 1, 1, 1])] { fr := frame 260 [(1, T.ptr 0 b0 0), (4, T.v (Value.string z)), (5, str (S ++ x0)), (6, int n), (7, int (List.length (Fm.ms f)))], ob := [(b0, Ob.cells (frC f))], gl := fun x => none }) (TWk Tryd.prog Γ (fin Tryd.prog Tryd.f12 [] Q) [It.code (sub (bd Tryd.f12) [1, 1, 1, 1, 0, 1, 0, 0, 1, 0, 0, 1, 0, 1, 1, 1, 1, 1, 1, 1, 1, 1, 1, 1, 1, 1, 1, 1, 1, 1, 1, 1, 1, 1, 1, 1, 1, 1, 0, 1, 1, 1, 1, 0]), It.blk 7, It.blk 2, It.blk 1, It.code (sub (bd Tryd.f12) [1, 1, 1, 1, 0, 1, 0, 0, 1, 1]), It.code (sub (bd Tryd.f12) [1, 1, 1, 1, 0, 1, 0]), It.blk 0, It.code (sub (bd Tryd.f12) [1, 1, 1, 1, 1])] { fr := frame 260 [(1, T.ptr 0 b0 0), (4, T.v (Value.string z)), (5, str (S ++ x0)), (6, int n), (8, int 0)], ob := [(b0, Ob.cells (frC f))], gl := fun x => none })) (by kernel_rfl) ?_
    repeat' (first | exact rfl | exact Nat.le_of_ble_eq_true rfl | refine And.intro ?_ ?_ | intro _ | refine bsplit_mk (fun _ => ?_) (fun _ => ?_))
    all_goals first
      | exact lv
      | (exfalso; rename_i hh; have hh : decide ((f.ms.length : Int) < ((Row.aggs memC f.ms).length : Int)) = true := hh; rw [hlt] at hh; cases hh)
      | trace_state
  | cons m r ih =>
    intro d h
    have hlt : d.length < f.ms.length := by rw [h]; simp
    have hlt2 : decide ((d.length : Int) < ((Row.aggs memC f.ms).length : Int)) = true := decide_eq_true (by omega)
    have hx : (Row.aggs memC f.ms)[((d.length : Nat) : Int).toNat]? = some (.agg (memC m)) := Row.aggs_at (by rw [Int.toNat_natCast, h]; simp)
    have hm := hf.mo m (by rw [h]; simp)
    have nx2 := ih (d ++ [m]) (by rw [h]; simp)
    rw [List.flatMap_append, ← List.append_assoc, List.flatMap_cons, List.flatMap_nil, List.append_nil, show (d ++ [m]).length = d.length + 1 by simp] at nx2
    rw [show m.bs = (be 1 m.n ++ be 1 m.l) ++ be 1 (one m.r) by rw [List.append_assoc]; rfl] at nx2
    have s0 := rone_post m.n hm.n
    have s1 := rone_post m.l hm.l
    have s2 := rflag_post m.r
    have l0 : (be 1 m.n).length ≤ 1 := Nat.le_of_eq (length_be 1 _)
    have l1 : (be 1 m.l).length ≤ 1 := Nat.le_of_eq (length_be 1 _)
    have l2 : (be 1 (one m.r)).length ≤ 1 := Nat.le_of_eq (length_be 1 _)
    have l3 : (d.flatMap Mem.bs).length ≤ 100 := by rw [hml]; omega
    generalize be 1 m.n = x0 at *
    generalize be 1 m.l = x1 at *
    generalize be 1 (one m.r) = x2 at *
    generalize d.flatMap Mem.bs = x3 at *
    clear ih nx
    refine run_sound (⟨fun | 52, 4 => .res (.agg (memC m)) | 52, 11 => .res (.agg (memC m)) | 52, 19 => .res (.agg (memC m)) | 52, 7 => told (str x0) [] [] | 52, 14 => told (str x1) [] [] | 52, 15 => .res (str (x0 ++ x1)) | 52, 22 => told (str x2) [] [] | 52, 23 => .res (str ((x0 ++ x1) ++ x2)) | 52, 24 => .res (str (S ++ x3 ++ ((x0 ++ x1) ++ x2))) | 51, 1 => .res (int (d.length + 1 : Nat)) | _, _ => .no, [((2, 50), ([1, 4, 5, 6, 7], 1)), ((0, 53), ([1, 4, 5, 6], 1))], fun | 4 => some ⟨[], [9], .take true [0,1,3,4,7,8] (.one 2 (.one 5 (.take false [6] (.one 9 (.take false [10,11] .done)))))⟩ | 24 => some ⟨[], [10], .take false [0,1,4,8] (.take true [2,5,9] (.one 3 (.one 6 (.take false [7] (.one 10 (.take false [11,12,13] .done))))))⟩ | 28 => some ⟨[], [], .take true [0,1,2,4,5,6,7,10,11] (.one 3 (.one 8 (.take true [9,12,13,14] .done)))⟩ | 40 => some ⟨[], [6], .take false [0,1,4] (.take true [2,5] (.one 3 (.one 6 (.take false [7,8,9] .done))))⟩ | 48 => some ⟨[], [8], .take false [0,1,4] (.take true [2,5,6,7] (.one 3 (.one 8 (.take false [9,10,11] .done))))⟩ | 52 => some ⟨[0], [22], .take false [0,1,3,8,10,16,18] (.take true [2,4,5,6,9,11,12,13,17,19,20,21] (.one 7 (.one 14 (.take false [15] (.one 22 (.take false [23,24,25] .done))))))⟩ | 16 => some ⟨[], [14], .take false [0,1,4,8,12] (.take true [2,5,9,13] (.one 3 (.one 6 (.take false [7] (.one 10 (.take false [11] (.one 14 (.take false [15,16,17] .done))))))))⟩ | _ => none⟩) 400 (B := b0 = b0 ∧ bsplit (decide ((↑(List.length d) : Int) < (↑(List.length (List.map (fun x => T.agg (memC x)) (Fm.ms f))) : Int))) (b0 = b0 ∧ (0 : Int) ≤ (↑(List.length d) : Int) ∧ (List.map (fun x => T.agg (memC x)) (Fm.ms f))[Int.toNat (↑(List.length d) : Int)]? = some (T.agg [u8 (Mem.n m), u8 (Mem.l m), bool (Mem.r m)]) ∧ b0 = b0 ∧ (0 : Int) ≤ (↑(List.length d) : Int) ∧ (List.map (fun x => T.agg (memC x)) (Fm.ms f))[Int.toNat (↑(List.length d) : Int)]? = some (T.agg [u8 (Mem.n m), u8 (Mem.l m), bool (Mem.r m)]) ∧ b0 = b0 ∧ (0 : Int) ≤ (↑(List.length d) : Int) ∧ (List.map (fun x => T.agg (memC x)) (Fm.ms f))[Int.toNat (↑(List.length d) : Int)]? = some (T.agg [u8 (Mem.n m), u8 (Mem.l m), bool (Mem.r m)]) ∧ TCalls Tryd.prog 33 [u8 (Mem.n m)] [] none_ (callPost (Hint.call false Unit (fun x => True) [] false (fun x => str x0) (fun x => []) fun x => none_)) ∧ ∀ (a : Unit), True → TCalls Tryd.prog 33 [u8 (Mem.l m)] [] none_ (callPost (Hint.call false Unit (fun x => True) [] false (fun x => str x1) (fun x => []) fun x => none_)) ∧ ∀ (a : Unit), True → ByteArray.size (ByteArray.mk (List.toArray x0)) + ByteArray.size (ByteArray.mk (List.toArray x1)) ≤ 9223372036854775807 ∧ some (T.v (Value.string ((ByteArray.mk (List.toArray x0)) ++ (ByteArray.mk (List.toArray x1))))) = some (str (x0 ++ x1)) ∧ TCalls Tryd.prog 35 [bool (Mem.r m)] [] none_ (callPost (Hint.call false Unit (fun x => True) [] false (fun x => str x2) (fun x => []) fun x => none_)) ∧ ∀ (a : Unit), True → ByteArray.size (ByteArray.mk (List.toArray (x0 ++ x1))) + ByteArray.size (ByteArray.mk (List.toArray x2)) ≤ 9223372036854775807 ∧ some (T.v (Value.string ((ByteArray.mk (List.toArray (x0 ++ x1))) ++ (ByteArray.mk (List.toArray x2))))) = some (str (x0 ++ x1 ++ x2)) ∧ ByteArray.size (ByteArray.mk (List.toArray (S ++ x3))) + ByteArray.size (ByteArray.mk (List.toArray (x0 ++ x1 ++ x2))) ≤ 9223372036854775807 ∧ some (T.v (Value.string ((ByteArray.mk (List.toArray (S ++ x3))) ++ (ByteArray.mk (List.toArray (x0 ++ x1 ++ x2)))))) = some (str (S ++ x3 ++ (x0 ++ x1 ++ x2))) ∧ int (IntKind.wrap IntKind.i64 ((↑(List.length d) : Int) + (1 : Int))) = int (List.length d + 1) ∧ TWk Tryd.prog Γ (fin Tryd.prog Tryd.f12 [] Q) [It.code (sub (bd Tryd.f12) [1, 1, 1, 1, 0, 1, 0, 0, 1, 0, 0, 1, 0, 1, 1, 1, 1, 1, 1, 1, 1, 1, 1, 1, 1, 1, 1, 1, 1, 1, 1, 1, 1, 1, 1, 1, 1, 1, 0, 1, 1, 0, 1, 0]), It.blk 5, It.code (sub (bd Tryd.f12) ptFQ1), It.blk 2, It.blk 1, It.code (sub (bd Tryd.f12) [1, 1, 1, 1, 0, 1, 0, 0, 1, 1]), It.code (sub (bd Tryd.f12) [1, 1, 1, 1, 0, 1, 0]), It.blk 0, It.code (sub (bd Tryd.f12) [1, 1, 1, 1, 1])] { fr := frame 260 [(1, T.ptr 0 b0 0), (4, T.v (Value.string z)), (5, str (S ++ x3 ++ (x0 ++ x1 ++ x2))), (6, int n), (7, int (List.length d + 1))], ob := [(b0, Ob.cells (frC f))], gl := fun x => none }) (TWk Tryd.prog Γ (fin Tryd.prog Tryd.f12 [] Q) [It.code (sub (bd Tryd.f12) ptFQ1), It.blk 2, It.blk 1, It.code (sub (bd Tryd.f12) [1, 1, 1, 1, 0, 1, 0, 0, 1, 1]), It.code (sub (bd Tryd.f12) [1, 1, 1, 1, 0, 1, 0]), It.blk 0, It.code (sub (bd Tryd.f12) [1, 1, 1, 1, 1])] { fr := frame 260 [(1, T.ptr 0 b0 0), (4, T.v (Value.string z)), (5, str (S ++ x3)), (6, int n)], ob := [(b0, Ob.cells (frC f))], gl := fun x => none })) (by kernel_rfl) ?_
    repeat' (first | exact rfl | exact Nat.le_of_ble_eq_true rfl | refine And.intro ?_ ?_ | intro _ | refine bsplit_mk (fun _ => ?_) (fun _ => ?_))
    all_goals first
      | exact s0
      | exact s1
      | exact s2
      | exact hx
      | (exfalso; rename_i hh; have hh : decide ((d.length : Int) < ((Row.aggs memC f.ms).length : Int)) = false := hh; rw [hlt2] at hh; cases hh)
      | exact nx2
      | exact n1T (by omega)
      | exact Int.natCast_nonneg _
      | exact catL _ _
      | exact cat_ok _ _ (by first | omega | (simp only [List.length_append]; omega))
      | (exfalso; simp only [decide_eq_true_eq, decide_eq_false_iff_not] at *; omega)
      | (simp only [decide_eq_true_eq, decide_eq_false_iff_not] at *; omega)
      | (clear nx2; trace_state)
theorem renc_w (hf : f.Ok) (hS : S.length ≤ 5000) (hn : n < z.size) (hn1 : n ≤ 100) (hz : ZAt z n 119) (hbad : f.may 119 = false → Q (.tup [str [], bool false]) [] none_) (nx : f.may 119 = true → (TWk Tryd.prog Γ (fin Tryd.prog Tryd.f12 [] Q) [.code (sub (bd Tryd.f12) [1, 1, 1, 1, 0, 1, 0]), .blk 0, .code (sub (bd Tryd.f12) [1, 1, 1, 1, 1])] ⟨frame 260 [(1, .ptr 0 b0 0), (4, .v (.string z)), (5, str (S ++ f.fb 119)), (6, int (n + 1 : Nat))], [(b0, .cells (frC f))], none_⟩)) :
    TWk Tryd.prog Γ (fin Tryd.prog Tryd.f12 [] Q) [.code (sub (bd Tryd.f12) [1, 1, 1, 1, 0, 1, 0]), .blk 0, .code (sub (bd Tryd.f12) [1, 1, 1, 1, 1])] ⟨frame 260 [(1, .ptr 0 b0 0), (4, .v (.string z)), (5, str (S)), (6, int (n : Nat))], [(b0, .cells (frC f))], none_⟩ := by
  have hal : (Row.aggs memC f.ms).length = f.ms.length := Row.aggs_len f.ms
  have hm : f.may 119 = decide (f.ms.length ≤ 8) := rfl
  rw [hm] at nx hbad
  have hlm := hf.ms
  have s0 := rfour_post f.ve hf.ve
  have s1 := rone_post f.ms.length (by omega)
  have w1 := w8 (n := f.ms.length) (by omega)
  rw [← hal] at w1
  have s1' : TCalls Tryd.prog 33 [u8 ((Row.aggs memC f.ms).length : Nat)] [] none_ (callPost (told (str (be 1 f.ms.length)) [] [])) := by rw [hal]; exact s1
  have l0 : (be 4 f.ve).length = 4 := length_be 4 _
  have l1 : (be 1 f.ms.length).length = 1 := length_be 1 _
  have ms := fun h : f.ms.length ≤ 8 => renc_ms Γ b0 f z (S ++ (be 4 f.ve ++ be 1 f.ms.length)) n Q hf (by rw [List.length_append, List.length_append]; omega) hn1 (by
    have hfb : S ++ f.fb 119 = S ++ (be 4 f.ve ++ be 1 f.ms.length) ++ (f.ms.flatMap Mem.bs ++ f.lv.bs) := by
      show S ++ (be 4 f.ve ++ (be 1 f.ms.length ++ (f.ms.flatMap Mem.bs ++ f.lv.bs))) = _
      simp only [List.append_assoc]
    rw [← hfb]; exact nx (decide_eq_true h)) f.ms [] rfl
  rw [List.flatMap_nil, List.append_nil] at ms
  clear nx
  generalize be 4 f.ve = x0 at *
  generalize be 1 f.ms.length = x1 at *
  have hbad := fun h : ¬ f.ms.length ≤ 8 => hbad (decide_eq_false h)
  refine run_sound (⟨fun | 8, 2 => .res (u8 119) | 48, 3 => told (str x0) [] [] | 48, 7 => .res (u8 (Row.aggs memC f.ms).length) | 48, 8 => told (str x1) [] [] | 48, 9 => .res (str (x0 ++ x1)) | 48, 10 => .res (str (S ++ (x0 ++ x1))) | _, _ => .no, [((2, 50), ([1, 4, 5, 6, 7], 1)), ((0, 53), ([1, 4, 5, 6], 1))], fun | 4 => some ⟨[], [9], .take true [0,1,3,4,7,8] (.one 2 (.one 5 (.take false [6] (.one 9 (.take false [10,11] .done)))))⟩ | 24 => some ⟨[], [10], .take false [0,1,4,8] (.take true [2,5,9] (.one 3 (.one 6 (.take false [7] (.one 10 (.take false [11,12,13] .done))))))⟩ | 28 => some ⟨[], [], .take true [0,1,2,4,5,6,7,10,11] (.one 3 (.one 8 (.take true [9,12,13,14] .done)))⟩ | 40 => some ⟨[], [6], .take false [0,1,4] (.take true [2,5] (.one 3 (.one 6 (.take false [7,8,9] .done))))⟩ | 48 => some ⟨[0], [8], .take false [0,1,4] (.take true [2,5,6,7] (.one 3 (.one 8 (.take false [9,10,11] .done))))⟩ | 52 => some ⟨[], [22], .take false [0,1,3,8,10,16,18] (.take true [2,4,5,6,9,11,12,13,17,19,20,21] (.one 7 (.one 14 (.take false [15] (.one 22 (.take false [23,24,25] .done))))))⟩ | 16 => some ⟨[], [14], .take false [0,1,4,8,12] (.take true [2,5,9,13] (.one 3 (.one 6 (.take false [7] (.one 10 (.take false [11] (.one 14 (.take false [15,16,17] .done))))))))⟩ | _ => none⟩) 400 (B := bsplit (decide ((↑n : Int) < (↑(ByteArray.size z) : Int))) ((0 : Int) ≤ (↑n : Int) ∧ Option.map (fun c => u8 (UInt8.toNat c)) z[Int.toNat (↑n : Int)]? = some (u8 119) ∧ b0 = b0 ∧ bsplit (decide ((↑(List.length (List.map (fun x => T.agg (memC x)) (Fm.ms f))) : Int) > (8 : Int))) (Q (T.tup [str [], bool false]) [] fun x => none) (b0 = b0 ∧ b0 = b0 ∧ u8 (IntKind.wrap IntKind.u8 (↑(List.length (List.map (fun x => T.agg (memC x)) (Fm.ms f))) : Int)) = u8 (List.length (List.map (fun x => T.agg (memC x)) (Fm.ms f))) ∧ TCalls Tryd.prog 34 [u32 (Fm.ve f)] [] none_ (callPost (Hint.call false Unit (fun x => True) [] false (fun x => str x0) (fun x => []) fun x => none_)) ∧ ∀ (a : Unit), True → TCalls Tryd.prog 33 [u8 (List.length (List.map (fun x => T.agg (memC x)) (Fm.ms f)))] [] none_ (callPost (Hint.call false Unit (fun x => True) [] false (fun x => str x1) (fun x => []) fun x => none_)) ∧ ∀ (a : Unit), True → ByteArray.size (ByteArray.mk (List.toArray x0)) + ByteArray.size (ByteArray.mk (List.toArray x1)) ≤ 9223372036854775807 ∧ some (T.v (Value.string ((ByteArray.mk (List.toArray x0)) ++ (ByteArray.mk (List.toArray x1))))) = some (str (x0 ++ x1)) ∧ ByteArray.size (ByteArray.mk (List.toArray S)) + ByteArray.size (ByteArray.mk (List.toArray (x0 ++ x1))) ≤ 9223372036854775807 ∧ some (T.v (Value.string ((ByteArray.mk (List.toArray S)) ++ (ByteArray.mk (List.toArray (x0 ++ x1)))))) = some (str (S ++ (x0 ++ x1))) ∧ TWk Tryd.prog Γ (fin Tryd.prog Tryd.f12 [] Q) [It.code (sub (bd Tryd.f12) [1, 1, 1, 1, 0, 1, 0, 0, 1, 0, 0, 1, 0, 1, 1, 1, 1, 1, 1, 1, 1, 1, 1, 1, 1, 1, 1, 1, 1, 1, 1, 1, 1, 1, 1, 1, 1, 1, 0, 1, 1, 0, 1, 0]), It.blk 5, It.code (sub (bd Tryd.f12) ptFQ1), It.blk 2, It.blk 1, It.code (sub (bd Tryd.f12) [1, 1, 1, 1, 0, 1, 0, 0, 1, 1]), It.code (sub (bd Tryd.f12) [1, 1, 1, 1, 0, 1, 0]), It.blk 0, It.code (sub (bd Tryd.f12) [1, 1, 1, 1, 1])] { fr := frame 260 [(1, T.ptr 0 b0 0), (4, T.v (Value.string z)), (5, str (S ++ (x0 ++ x1))), (6, int n), (7, int 0)], ob := [(b0, Ob.cells (frC f))], gl := fun x => none })) False) (by kernel_rfl) ?_
  repeat' (first | exact rfl | exact Nat.le_of_ble_eq_true rfl | refine And.intro ?_ ?_ | intro _ | refine bsplit_mk (fun _ => ?_) (fun _ => ?_))
  all_goals first
    | exact hz
    | exact s0
    | exact s1
    | exact s1'
    | exact w1
    | (rename_i hh; have hh : decide (((Row.aggs memC f.ms).length : Int) > 8) = true := hh; exact hbad (by have := of_decide_eq_true hh; omega))
    | (have hh := ‹decide (((Row.aggs memC f.ms).length : Int) > 8) = false›; exact ms (by have := of_decide_eq_false hh; omega))
    | exact Int.natCast_nonneg _
    | exact catL _ _
    | exact cat_ok _ _ (by first | omega | (simp only [List.length_append]; omega))
    | (exfalso; simp only [decide_eq_true_eq, decide_eq_false_iff_not] at *; omega)
    | (simp only [decide_eq_true_eq, decide_eq_false_iff_not] at *; omega)
    | (clear ms hbad; trace_state)
theorem renc_es (hf : f.Ok) (hS : S.length ≤ 6000) (hn1 : n ≤ 100) (nx : TWk Tryd.prog Γ (fin Tryd.prog Tryd.f12 [] Q) [.code (sub (bd Tryd.f12) [1, 1, 1, 1, 0, 1, 0]), .blk 0, .code (sub (bd Tryd.f12) [1, 1, 1, 1, 1])] ⟨frame 260 [(1, .ptr 0 b0 0), (4, .v (.string z)), (5, str (S ++ f.es.flatMap Ent.bs)), (6, int (n + 1 : Nat))], [(b0, .cells (frC f))], none_⟩) : ∀ (r d : List Ent), f.es = d ++ r →
    TWk Tryd.prog Γ (fin Tryd.prog Tryd.f12 [] Q) [.code (sub (bd Tryd.f12) [1, 1, 1, 1, 0, 1, 0, 0, 1, 0, 0, 1, 0, 1, 1, 1, 1, 1, 1, 1, 1, 1, 1, 1, 1, 1, 1, 1, 1, 1, 1, 1, 1, 1, 1, 1, 1, 1, 1, 1, 1, 1, 0]), .blk 3, .blk 2, .blk 1, .code (sub (bd Tryd.f12) [1, 1, 1, 1, 0, 1, 0, 0, 1, 1]), .code (sub (bd Tryd.f12) [1, 1, 1, 1, 0, 1, 0]), .blk 0, .code (sub (bd Tryd.f12) [1, 1, 1, 1, 1])] ⟨frame 260 [(1, .ptr 0 b0 0), (4, .v (.string z)), (5, str (S ++ d.flatMap Ent.bs)), (6, int (n : Nat)), (9, int (d.length : Nat))], [(b0, .cells (frC f))], none_⟩ := by
  have hal : (Row.aggs entC f.es).length = f.es.length := Row.aggs_len f.es
  have hlm := hf.es
  have hml := flat_len Ent.bs 20 ent_len
  intro r
  induction r with
  | nil =>
    intro d h
    have e : d = f.es := by rw [h]; simp
    subst e
    generalize f.es.flatMap Ent.bs = x0 at *
    have hlt : decide ((f.es.length : Int) < ((Row.aggs entC f.es).length : Int)) = false := decide_eq_false (by omega)
    refine run_sound (⟨fun | 15, 3 => .res (.agg (entC ⟨0, 0, 0, ⟨0, 0, 0, 0, 0⟩⟩)) | 7, 1 => .res (int (n + 1 : Nat)) | _, _ => .no, [((2, 13), ([1, 4, 5, 6, 9], 1)), ((2, 6), ([1, 4, 5, 6], 1)), ((1, 4), ([1, 4, 5, 6, 9], 1))], fun | 4 => some ⟨[], [9], .take true [0,1,3,4,7,8] (.one 2 (.one 5 (.take false [6] (.one 9 (.take false [10,11] .done)))))⟩ | 24 => some ⟨[], [10], .take false [0,1,4,8] (.take true [2,5,9] (.one 3 (.one 6 (.take false [7] (.one 10 (.take false [11,12,13] .done))))))⟩ | 28 => some ⟨[], [], .take true [0,1,2,4,5,6,7,10,11] (.one 3 (.one 8 (.take true [9,12,13,14] .done)))⟩ | 40 => some ⟨[], [6], .take false [0,1,4] (.take true [2,5] (.one 3 (.one 6 (.take false [7,8,9] .done))))⟩ | 48 => some ⟨[], [8], .take false [0,1,4] (.take true [2,5,6,7] (.one 3 (.one 8 (.take false [9,10,11] .done))))⟩ | 52 => some ⟨[], [22], .take false [0,1,3,8,10,16,18] (.take true [2,4,5,6,9,11,12,13,17,19,20,21] (.one 7 (.one 14 (.take false [15] (.one 22 (.take false [23,24,25] .done))))))⟩ | 16 => some ⟨[], [14], .take false [0,1,4,8,12] (.take true [2,5,9,13] (.one 3 (.one 6 (.take false [7] (.one 10 (.take false [11] (.one 14 (.take false [15,16,17] .done))))))))⟩ | _ => none⟩) 400 (B := b0 = b0 ∧ bsplit (decide ((↑(List.length (Fm.es f)) : Int) < (↑(List.length (List.map (fun x => T.agg (entC x)) (Fm.es f))) : Int))) (TWk Tryd.prog Γ (fin Tryd.prog Tryd.f12 [] Q) [It.code (sub (bd Tryd.f12) [1, 1, 1, 1, 0, 1, 0, 0, 1, 0, 0, 1, 0, 1, 1, 1, 1, 1, 1, 1, 1, 1, 1, 1, 1, 1, 1, 1, 1, 1, 1, 1, 1, 1, 1, 1, 1, 1, 1, 1, 1, 1, 0, 0, 1]), It.code (sub (bd Tryd.f12) [1, 1, 1, 1, 0, 1, 0, 0, 1, 0, 0, 1, 0, 1, 1, 1, 1, 1, 1, 1, 1, 1, 1, 1, 1, 1, 1, 1, 1, 1, 1, 1, 1, 1, 1, 1, 1, 1, 1, 1, 1, 1, 0]), It.blk 3, It.blk 2, It.blk 1, It.code (sub (bd Tryd.f12) [1, 1, 1, 1, 0, 1, 0, 0, 1, 1]), It.code (sub (bd Tryd.f12) [1, 1, 1, 1, 0, 1, 0]), It.blk 0, It.code (sub (bd Tryd.f12) [1, 1, 1, 1, 1])] { fr := frame 260 [(1, T.ptr 0 b0 0), (4, T.v (Value.string z)), (5, str (S ++ x0)), (6, int n), (9, int (List.length (Fm.es f)))], ob := [(b0, Ob.cells (frC f))], gl := fun x => none }) (int (IntKind.wrap IntKind.i64 ((↑n : Int) + (1 : Int))) = int (n + 1) ∧ TWk Tryd.prog Γ (fin Tryd.prog Tryd.f12 [] Q) [It.code (sub (bd Tryd.f12) [1, 1, 1, 1, 0, 1, 0]), It.blk 0, It.code (sub (bd Tryd.f12) [1, 1, 1, 1, 1])] { fr := frame 260 [(1, T.ptr 0 b0 0), (4, T.v (Value.string z)), (5, str (S ++ x0)), (6, int (n + 1))], ob := [(b0, Ob.cells (frC f))], gl := fun x => none })) (by kernel_rfl) ?_
    repeat' (first | exact rfl | exact Nat.le_of_ble_eq_true rfl | refine And.intro ?_ ?_ | intro _ | refine bsplit_mk (fun _ => ?_) (fun _ => ?_))
    all_goals first
      | exact nx
      | exact n1T (by omega)
      | (exfalso; rename_i hh; have hh : decide ((f.es.length : Int) < ((Row.aggs entC f.es).length : Int)) = true := hh; rw [hlt] at hh; cases hh)
      | trace_state
  | cons m r ih =>
    intro d h
    have hlt : d.length < f.es.length := by rw [h]; simp
    have hlt2 : decide ((d.length : Int) < ((Row.aggs entC f.es).length : Int)) = true := decide_eq_true (by omega)
    have hx : (Row.aggs entC f.es)[((d.length : Nat) : Int).toNat]? = some (.agg (entC m)) := Row.aggs_at (by rw [Int.toNat_natCast, h]; simp)
    have hm := hf.eo m (by rw [h]; simp)
    have nx2 := ih (d ++ [m]) (by rw [h]; simp)
    rw [List.flatMap_append, ← List.append_assoc, List.flatMap_cons, List.flatMap_nil, List.append_nil, show (d ++ [m]).length = d.length + 1 by simp] at nx2
    rw [show m.bs = ((be 4 m.s ++ be 4 m.n) ++ be 1 m.b) ++ m.c.bs by rw [List.append_assoc, List.append_assoc]; rfl] at nx2
    have s0 := rfour_post m.s hm.s
    have s1 := rfour_post m.n hm.n
    have s2 := rone_post m.b hm.b
    have s3 := rcmd_post m.c hm.c
    have l0 : (be 4 m.s).length ≤ 4 := Nat.le_of_eq (length_be 4 _)
    have l1 : (be 4 m.n).length ≤ 4 := Nat.le_of_eq (length_be 4 _)
    have l2 : (be 1 m.b).length ≤ 1 := Nat.le_of_eq (length_be 1 _)
    have l3 : m.c.bs.length ≤ 11 := Nat.le_of_eq (cmd_len _)
    have l4 : (d.flatMap Ent.bs).length ≤ 1000 := by rw [hml]; omega
    generalize be 4 m.s = x0 at *
    generalize be 4 m.n = x1 at *
    generalize be 1 m.b = x2 at *
    generalize m.c.bs = x3 at *
    generalize d.flatMap Ent.bs = x4 at *
    clear ih nx
    refine run_sound (⟨fun | 15, 3 => .res (.agg (entC m)) | 16, 3 => told (str x0) [] [] | 16, 6 => told (str x1) [] [] | 16, 7 => .res (str (x0 ++ x1)) | 16, 10 => told (str x2) [] [] | 16, 11 => .res (str ((x0 ++ x1) ++ x2)) | 16, 14 => told (str x3) [] [] | 16, 15 => .res (str (((x0 ++ x1) ++ x2) ++ x3)) | 16, 16 => .res (str (S ++ x4 ++ (((x0 ++ x1) ++ x2) ++ x3))) | 14, 1 => .res (int (d.length + 1 : Nat)) | _, _ => .no, [((2, 13), ([1, 4, 5, 6, 9], 1)), ((0, 7), ([1, 4, 5, 6], 1))], fun | 4 => some ⟨[], [9], .take true [0,1,3,4,7,8] (.one 2 (.one 5 (.take false [6] (.one 9 (.take false [10,11] .done)))))⟩ | 24 => some ⟨[], [10], .take false [0,1,4,8] (.take true [2,5,9] (.one 3 (.one 6 (.take false [7] (.one 10 (.take false [11,12,13] .done))))))⟩ | 28 => some ⟨[], [], .take true [0,1,2,4,5,6,7,10,11] (.one 3 (.one 8 (.take true [9,12,13,14] .done)))⟩ | 40 => some ⟨[], [6], .take false [0,1,4] (.take true [2,5] (.one 3 (.one 6 (.take false [7,8,9] .done))))⟩ | 48 => some ⟨[], [8], .take false [0,1,4] (.take true [2,5,6,7] (.one 3 (.one 8 (.take false [9,10,11] .done))))⟩ | 52 => some ⟨[], [22], .take false [0,1,3,8,10,16,18] (.take true [2,4,5,6,9,11,12,13,17,19,20,21] (.one 7 (.one 14 (.take false [15] (.one 22 (.take false [23,24,25] .done))))))⟩ | 16 => some ⟨[1], [14], .take false [0,1,4,8,12] (.take true [2,5,9,13] (.one 3 (.one 6 (.take false [7] (.one 10 (.take false [11] (.one 14 (.take false [15,16,17] .done))))))))⟩ | _ => none⟩) 400 (B := b0 = b0 ∧ bsplit (decide ((↑(List.length d) : Int) < (↑(List.length (List.map (fun x => T.agg (entC x)) (Fm.es f))) : Int))) (b0 = b0 ∧ (0 : Int) ≤ (↑(List.length d) : Int) ∧ (List.map (fun x => T.agg (entC x)) (Fm.es f))[Int.toNat (↑(List.length d) : Int)]? = some (T.agg [u32 (Ent.s m), u32 (Ent.n m), u8 (Ent.b m), u8 (Cmd.k (Ent.c m)), u8 (Cmd.n (Ent.c m)), u8 (Cmd.l (Ent.c m)), u32 (Cmd.e (Ent.c m)), u32 (Cmd.q (Ent.c m))]) ∧ ∀ (b : Nat), (8 = nat_lit 8 ∧ List.all [u32 (Ent.s m), u32 (Ent.n m), u8 (Ent.b m), u8 (Cmd.k (Ent.c m)), u8 (Cmd.n (Ent.c m)), u8 (Cmd.l (Ent.c m)), u32 (Cmd.e (Ent.c m)), u32 (Cmd.q (Ent.c m))] T.one = true) ∧ b = b ∧ 0 + nat_lit 8 ≤ 8 ∧ b = b ∧ b = b ∧ b = b ∧ b = b ∧ TCalls Tryd.prog 34 [u32 (Ent.s m)] [] none_ (callPost (Hint.call false Unit (fun x => True) [] false (fun x => str x0) (fun x => []) fun x => none_)) ∧ ∀ (a : Unit), True → TCalls Tryd.prog 34 [u32 (Ent.n m)] [] none_ (callPost (Hint.call false Unit (fun x => True) [] false (fun x => str x1) (fun x => []) fun x => none_)) ∧ ∀ (a : Unit), True → ByteArray.size (ByteArray.mk (List.toArray x0)) + ByteArray.size (ByteArray.mk (List.toArray x1)) ≤ 9223372036854775807 ∧ some (T.v (Value.string ((ByteArray.mk (List.toArray x0)) ++ (ByteArray.mk (List.toArray x1))))) = some (str (x0 ++ x1)) ∧ TCalls Tryd.prog 33 [u8 (Ent.b m)] [] none_ (callPost (Hint.call false Unit (fun x => True) [] false (fun x => str x2) (fun x => []) fun x => none_)) ∧ ∀ (a : Unit), True → ByteArray.size (ByteArray.mk (List.toArray (x0 ++ x1))) + ByteArray.size (ByteArray.mk (List.toArray x2)) ≤ 9223372036854775807 ∧ some (T.v (Value.string ((ByteArray.mk (List.toArray (x0 ++ x1))) ++ (ByteArray.mk (List.toArray x2))))) = some (str (x0 ++ x1 ++ x2)) ∧ TCalls Tryd.prog 36 [T.agg [u8 (Cmd.k (Ent.c m)), u8 (Cmd.n (Ent.c m)), u8 (Cmd.l (Ent.c m)), u32 (Cmd.e (Ent.c m)), u32 (Cmd.q (Ent.c m))]] [] none_ (callPost (Hint.call false Unit (fun x => True) [] false (fun x => str x3) (fun x => []) fun x => none_)) ∧ ∀ (a : Unit), True → ByteArray.size (ByteArray.mk (List.toArray (x0 ++ x1 ++ x2))) + ByteArray.size (ByteArray.mk (List.toArray x3)) ≤ 9223372036854775807 ∧ some (T.v (Value.string ((ByteArray.mk (List.toArray (x0 ++ x1 ++ x2))) ++ (ByteArray.mk (List.toArray x3))))) = some (str (x0 ++ x1 ++ x2 ++ x3)) ∧ ByteArray.size (ByteArray.mk (List.toArray (S ++ x4))) + ByteArray.size (ByteArray.mk (List.toArray (x0 ++ x1 ++ x2 ++ x3))) ≤ 9223372036854775807 ∧ some (T.v (Value.string ((ByteArray.mk (List.toArray (S ++ x4))) ++ (ByteArray.mk (List.toArray (x0 ++ x1 ++ x2 ++ x3)))))) = some (str (S ++ x4 ++ (x0 ++ x1 ++ x2 ++ x3))) ∧ int (IntKind.wrap IntKind.i64 ((↑(List.length d) : Int) + (1 : Int))) = int (List.length d + 1) ∧ TWk Tryd.prog Γ (fin Tryd.prog Tryd.f12 [] Q) [It.code (sub (bd Tryd.f12) [1, 1, 1, 1, 0, 1, 0, 0, 1, 0, 0, 1, 0, 1, 1, 1, 1, 1, 1, 1, 1, 1, 1, 1, 1, 1, 1, 1, 1, 1, 1, 1, 1, 1, 1, 1, 1, 1, 1, 1, 1, 1, 0]), It.blk 3, It.blk 2, It.blk 1, It.code (sub (bd Tryd.f12) [1, 1, 1, 1, 0, 1, 0, 0, 1, 1]), It.code (sub (bd Tryd.f12) [1, 1, 1, 1, 0, 1, 0]), It.blk 0, It.code (sub (bd Tryd.f12) [1, 1, 1, 1, 1])] { fr := frame 260 [(1, T.ptr 0 b0 0), (4, T.v (Value.string z)), (5, str (S ++ x4 ++ (x0 ++ x1 ++ x2 ++ x3))), (6, int n), (9, int (List.length d + 1))], ob := [(b0, Ob.cells (frC f))], gl := fun x => none }) (TWk Tryd.prog Γ (fin Tryd.prog Tryd.f12 [] Q) [It.code (sub (bd Tryd.f12) [1, 1, 1, 1, 0, 1, 0, 0, 1, 1]), It.code (sub (bd Tryd.f12) [1, 1, 1, 1, 0, 1, 0]), It.blk 0, It.code (sub (bd Tryd.f12) [1, 1, 1, 1, 1])] { fr := frame 260 [(1, T.ptr 0 b0 0), (4, T.v (Value.string z)), (5, str (S ++ x4)), (6, int n)], ob := [(b0, Ob.cells (frC f))], gl := fun x => none })) (by kernel_rfl) ?_
    repeat' (first | exact rfl | exact Nat.le_of_ble_eq_true rfl | refine And.intro ?_ ?_ | intro _ | refine bsplit_mk (fun _ => ?_) (fun _ => ?_))
    all_goals first
      | exact s0
      | exact s1
      | exact s2
      | exact s3
      | exact hx
      | (exfalso; rename_i hh; have hh : decide ((d.length : Int) < ((Row.aggs entC f.es).length : Int)) = false := hh; rw [hlt2] at hh; cases hh)
      | exact nx2
      | exact n1T (by omega)
      | exact Int.natCast_nonneg _
      | exact catL _ _
      | exact cat_ok _ _ (by first | omega | (simp only [List.length_append]; omega))
      | (exfalso; simp only [decide_eq_true_eq, decide_eq_false_iff_not] at *; omega)
      | (simp only [decide_eq_true_eq, decide_eq_false_iff_not] at *; omega)
      | (clear nx2; trace_state)
theorem renc_t (hf : f.Ok) (hS : S.length ≤ 5000) (hn : n < z.size) (hn1 : n ≤ 100) (hz : ZAt z n 116) (hbad : f.may 116 = false → Q (.tup [str [], bool false]) [] none_) (nx : f.may 116 = true → (TWk Tryd.prog Γ (fin Tryd.prog Tryd.f12 [] Q) [.code (sub (bd Tryd.f12) [1, 1, 1, 1, 0, 1, 0]), .blk 0, .code (sub (bd Tryd.f12) [1, 1, 1, 1, 1])] ⟨frame 260 [(1, .ptr 0 b0 0), (4, .v (.string z)), (5, str (S ++ f.fb 116)), (6, int (n + 1 : Nat))], [(b0, .cells (frC f))], none_⟩)) :
    TWk Tryd.prog Γ (fin Tryd.prog Tryd.f12 [] Q) [.code (sub (bd Tryd.f12) [1, 1, 1, 1, 0, 1, 0]), .blk 0, .code (sub (bd Tryd.f12) [1, 1, 1, 1, 1])] ⟨frame 260 [(1, .ptr 0 b0 0), (4, .v (.string z)), (5, str (S)), (6, int (n : Nat))], [(b0, .cells (frC f))], none_⟩ := by
  have hal : (Row.aggs entC f.es).length = f.es.length := Row.aggs_len f.es
  have hm : f.may 116 = decide (f.es.length ≤ 16) := rfl
  rw [hm] at nx hbad
  have hlm := hf.es
  have s1 := rone_post f.es.length (by omega)
  have w1 := w8 (n := f.es.length) (by omega)
  rw [← hal] at w1
  have s1' : TCalls Tryd.prog 33 [u8 ((Row.aggs entC f.es).length : Nat)] [] none_ (callPost (told (str (be 1 f.es.length)) [] [])) := by rw [hal]; exact s1
  have l1 : (be 1 f.es.length).length = 1 := length_be 1 _
  have es := fun h : f.es.length ≤ 16 => renc_es Γ b0 f z (S ++ be 1 f.es.length) n Q hf (by rw [List.length_append]; omega) hn1 (by
    have hfb : S ++ f.fb 116 = S ++ be 1 f.es.length ++ f.es.flatMap Ent.bs := by
      show S ++ (be 1 f.es.length ++ f.es.flatMap Ent.bs) = _
      simp only [List.append_assoc]
    rw [← hfb]; exact nx (decide_eq_true h)) f.es [] rfl
  rw [List.flatMap_nil, List.append_nil] at es
  clear nx
  generalize be 1 f.es.length = x1 at *
  have hbad := fun h : ¬ f.es.length ≤ 16 => hbad (decide_eq_false h)
  refine run_sound (⟨fun | 8, 2 => .res (u8 116) | 11, 4 => .res (u8 (Row.aggs entC f.es).length) | 11, 5 => told (str x1) [] [] | 11, 6 => .res (str (S ++ x1)) | _, _ => .no, [((2, 13), ([1, 4, 5, 6, 9], 1)), ((0, 7), ([1, 4, 5, 6], 1))], fun | 4 => some ⟨[], [9], .take true [0,1,3,4,7,8] (.one 2 (.one 5 (.take false [6] (.one 9 (.take false [10,11] .done)))))⟩ | 24 => some ⟨[], [10], .take false [0,1,4,8] (.take true [2,5,9] (.one 3 (.one 6 (.take false [7] (.one 10 (.take false [11,12,13] .done))))))⟩ | 28 => some ⟨[], [], .take true [0,1,2,4,5,6,7,10,11] (.one 3 (.one 8 (.take true [9,12,13,14] .done)))⟩ | 40 => some ⟨[], [6], .take false [0,1,4] (.take true [2,5] (.one 3 (.one 6 (.take false [7,8,9] .done))))⟩ | 48 => some ⟨[], [8], .take false [0,1,4] (.take true [2,5,6,7] (.one 3 (.one 8 (.take false [9,10,11] .done))))⟩ | 52 => some ⟨[], [22], .take false [0,1,3,8,10,16,18] (.take true [2,4,5,6,9,11,12,13,17,19,20,21] (.one 7 (.one 14 (.take false [15] (.one 22 (.take false [23,24,25] .done))))))⟩ | 16 => some ⟨[], [14], .take false [0,1,4,8,12] (.take true [2,5,9,13] (.one 3 (.one 6 (.take false [7] (.one 10 (.take false [11] (.one 14 (.take false [15,16,17] .done))))))))⟩ | _ => none⟩) 400 (B := bsplit (decide ((↑n : Int) < (↑(ByteArray.size z) : Int))) ((0 : Int) ≤ (↑n : Int) ∧ Option.map (fun c => u8 (UInt8.toNat c)) z[Int.toNat (↑n : Int)]? = some (u8 116) ∧ b0 = b0 ∧ bsplit (decide ((↑(List.length (List.map (fun x => T.agg (entC x)) (Fm.es f))) : Int) > (16 : Int))) (Q (T.tup [str [], bool false]) [] fun x => none) (b0 = b0 ∧ u8 (IntKind.wrap IntKind.u8 (↑(List.length (List.map (fun x => T.agg (entC x)) (Fm.es f))) : Int)) = u8 (List.length (List.map (fun x => T.agg (entC x)) (Fm.es f))) ∧ TCalls Tryd.prog 33 [u8 (List.length (List.map (fun x => T.agg (entC x)) (Fm.es f)))] [] none_ (callPost (Hint.call false Unit (fun x => True) [] false (fun x => str x1) (fun x => []) fun x => none_)) ∧ ∀ (a : Unit), True → ByteArray.size (ByteArray.mk (List.toArray S)) + ByteArray.size (ByteArray.mk (List.toArray x1)) ≤ 9223372036854775807 ∧ some (T.v (Value.string ((ByteArray.mk (List.toArray S)) ++ (ByteArray.mk (List.toArray x1))))) = some (str (S ++ x1)) ∧ TWk Tryd.prog Γ (fin Tryd.prog Tryd.f12 [] Q) [It.code (sub (bd Tryd.f12) [1, 1, 1, 1, 0, 1, 0, 0, 1, 0, 0, 1, 0, 1, 1, 1, 1, 1, 1, 1, 1, 1, 1, 1, 1, 1, 1, 1, 1, 1, 1, 1, 1, 1, 1, 1, 1, 1, 1, 1, 1, 1, 0]), It.blk 3, It.blk 2, It.blk 1, It.code (sub (bd Tryd.f12) [1, 1, 1, 1, 0, 1, 0, 0, 1, 1]), It.code (sub (bd Tryd.f12) [1, 1, 1, 1, 0, 1, 0]), It.blk 0, It.code (sub (bd Tryd.f12) [1, 1, 1, 1, 1])] { fr := frame 260 [(1, T.ptr 0 b0 0), (4, T.v (Value.string z)), (5, str (S ++ x1)), (6, int n), (9, int 0)], ob := [(b0, Ob.cells (frC f))], gl := fun x => none })) False) (by kernel_rfl) ?_
  repeat' (first | exact rfl | exact Nat.le_of_ble_eq_true rfl | refine And.intro ?_ ?_ | intro _ | refine bsplit_mk (fun _ => ?_) (fun _ => ?_))
  all_goals first
    | exact hz
    | exact s1
    | exact s1'
    | exact w1
    | (rename_i hh; have hh : decide (((Row.aggs entC f.es).length : Int) > 16) = true := hh; exact hbad (by have := of_decide_eq_true hh; omega))
    | (have hh := ‹decide (((Row.aggs entC f.es).length : Int) > 16) = false›; exact es (by have := of_decide_eq_false hh; omega))
    | exact Int.natCast_nonneg _
    | exact catL _ _
    | exact cat_ok _ _ (by first | omega | (simp only [List.length_append]; omega))
    | (exfalso; simp only [decide_eq_true_eq, decide_eq_false_iff_not] at *; omega)
    | (simp only [decide_eq_true_eq, decide_eq_false_iff_not] at *; omega)
    | (clear es hbad; trace_state)
end
end X6
end Go.Proofs.YtaepgceodcdnhaaDoor.Vm
/- Frames by the engine: the document's Encode, joined. -/
namespace Go.Proofs.YtaepgceodcdnhaaDoor.Vm
open Go Go.RowKit
set_option maxRecDepth 100000
namespace X6
open Frm (num text raw one Cmd Mem Ent Lvs Fm lets fields)
open Oct (be length_be)
theorem fb_len {f : Fm} (hf : f.Ok) (c : Nat) (hm : f.may c = true) : (f.fb c).length ≤ 400 := by
  have hms := hf.ms
  have hes := hf.es
  have l1 := flat_len Mem.bs 3 mem_len f.ms
  have l2 := flat_len Ent.bs 20 ent_len f.es
  unfold Frm.Fm.fb
  by_cases h : c = 118
  · subst h
    have hm : Frm.valOk f.has f.x = true := hm
    unfold Frm.valOk at hm
    have : f.x.length ≤ 32 := by simp at hm; exact hm.1
    show (be 1 (one f.has) ++ (UInt8.ofNat f.x.length :: f.x)).length ≤ 400
    rw [List.length_append, length_be, List.length_cons]; omega
  · by_cases g : c = 101
    · rw [if_pos g]; simp [length_be]
    rw [if_neg g]; clear g
    by_cases g : c = 107
    · rw [if_pos g]; simp [length_be]
    rw [if_neg g]; clear g
    by_cases g : c = 115
    · rw [if_pos g]; simp [length_be]
    rw [if_neg g]; clear g
    by_cases g : c = 118
    · exact absurd g h
    rw [if_neg g]; clear g
    by_cases g : c = 114
    · rw [if_pos g]; simp [length_be]
    rw [if_neg g]; clear g
    by_cases g : c = 102
    · rw [if_pos g]; simp [length_be]
    rw [if_neg g]; clear g
    by_cases g : c = 100
    · rw [if_pos g]; simp [length_be]
    rw [if_neg g]; clear g
    by_cases g : c = 108
    · rw [if_pos g]; simp [length_be]
    rw [if_neg g]; clear g
    by_cases g : c = 113
    · rw [if_pos g]; simp [length_be]
    rw [if_neg g]; clear g
    by_cases g : c = 98
    · rw [if_pos g]; simp [length_be]
    rw [if_neg g]; clear g
    by_cases g : c = 110
    · rw [if_pos g]; simp [length_be]
    rw [if_neg g]; clear g
    by_cases g : c = 99
    · rw [if_pos g]; rw [cmd_len]; omega
    rw [if_neg g]; clear g
    by_cases g : c = 119
    · rw [if_pos g]; rw [List.length_append, List.length_append, List.length_append, length_be, length_be, l1, show f.lv.bs.length = 8 from rfl]; omega
    rw [if_neg g]; clear g
    rw [List.length_append, length_be, l2]; omega
def rencT (f : Fm) : T := .tup [str f.enc.1, bool f.good]
theorem zat (l d r : List Nat) (c : Nat) (hl : l = d ++ c :: r) (hc : c < 128) : ZAt ⟨(letS l).toArray⟩ d.length c := by
  have hlt : d.length < (letS l).length := by rw [letS_len, hl]; simp
  have h := str_at (letS l) d.length hlt
  have e : ((letS l)[d.length]).toNat = c := by
    have : (letS l)[d.length] = UInt8.ofNat c := by simp [letS, hl]
    rw [this, UInt8.toNat_ofNat']; omega
  rw [e] at h
  exact h
section
variable (Γ : Ctx) (b0 : Nat) (f : Fm) (Q : T → Obs → Glb → Prop)
theorem renc_loop (hf : f.Ok) (hk : Frm.hasKind f.kind = true) (hQ1 : f.good = true → Q (.tup [str (Crc.sealL f.bytes), bool true]) [] none_) (hQ0 : f.good = false → Q (.tup [str [], bool false]) [] none_) : ∀ (r d : List Nat), lets f.kind = d ++ r → (∀ x ∈ d, f.may x = true) →
    TWk Tryd.prog Γ (fin Tryd.prog Tryd.f12 [] Q) [.code (sub (bd Tryd.f12) [1, 1, 1, 1, 0, 1, 0]), .blk 0, .code (sub (bd Tryd.f12) [1, 1, 1, 1, 1])] ⟨frame 260 [(1, .ptr 0 b0 0), (4, .v (.string ⟨(letS (lets f.kind)).toArray⟩)), (5, str (f.hb ++ d.flatMap f.fb)), (6, int (d.length : Nat))], [(b0, .cells (frC f))], none_⟩ := by
  have hl6 := Frm.lets_len f.kind
  have hhb : f.hb.length = 3 := by unfold Frm.Fm.hb; simp [length_be]
  intro r
  induction r with
  | nil =>
    intro d h1 h2
    have e : d = lets f.kind := by rw [h1]; simp
    subst e
    have hg : f.good = true := by
      unfold Frm.Fm.good
      rw [hk, Bool.true_and, List.all_eq_true]
      exact h2
    have hQ1 := hQ1 hg
    have hfl := Frm.flat_le (f := f.fb) (lets f.kind) (fun c hc => fb_len hf c (h2 c hc))
    have hs := X2.rseal_any f.bytes (by show (f.hb ++ (lets f.kind).flatMap f.fb).length ≤ _; rw [List.length_append]; omega) _ (fun x h => told_post (sel := []) (ob := []) h)
    have hsz : (⟨(letS (lets f.kind)).toArray⟩ : ByteArray).size = (lets f.kind).length := by show (letS (lets f.kind)).toArray.size = _; simp [letS]
    rw [show f.hb ++ (lets f.kind).flatMap f.fb = f.bytes from rfl]
    clear hQ0 hfl
    generalize f.bytes = B at *
    generalize Crc.sealL B = SB at *
    generalize (⟨(letS (lets f.kind)).toArray⟩ : ByteArray) = z at *
    generalize (lets f.kind).length = n at *
    generalize frC f = C at *
    refine run_sound (⟨fun | 8, 2 => .no | 57, 1 => told (str SB) [] [] | _, _ => .no, [((0, 8), ([1, 4, 5, 6], 1))], fun | 4 => some ⟨[], [9], .take true [0,1,3,4,7,8] (.one 2 (.one 5 (.take false [6] (.one 9 (.take false [10,11] .done)))))⟩ | 24 => some ⟨[], [10], .take false [0,1,4,8] (.take true [2,5,9] (.one 3 (.one 6 (.take false [7] (.one 10 (.take false [11,12,13] .done))))))⟩ | 28 => some ⟨[], [], .take true [0,1,2,4,5,6,7,10,11] (.one 3 (.one 8 (.take true [9,12,13,14] .done)))⟩ | 40 => some ⟨[], [6], .take false [0,1,4] (.take true [2,5] (.one 3 (.one 6 (.take false [7,8,9] .done))))⟩ | 48 => some ⟨[], [8], .take false [0,1,4] (.take true [2,5,6,7] (.one 3 (.one 8 (.take false [9,10,11] .done))))⟩ | 52 => some ⟨[], [22], .take false [0,1,3,8,10,16,18] (.take true [2,4,5,6,9,11,12,13,17,19,20,21] (.one 7 (.one 14 (.take false [15] (.one 22 (.take false [23,24,25] .done))))))⟩ | 16 => some ⟨[], [14], .take false [0,1,4,8,12] (.take true [2,5,9,13] (.one 3 (.one 6 (.take false [7] (.one 10 (.take false [11] (.one 14 (.take false [15,16,17] .done))))))))⟩ | _ => none⟩) 400 (B := bsplit (decide ((↑n : Int) < (↑(ByteArray.size z) : Int))) (TWk Tryd.prog Γ (fin Tryd.prog Tryd.f12 [] Q) [It.code (sub (bd Tryd.f12) [1, 1, 1, 1, 0, 1, 0, 0, 1, 0, 0]), It.blk 1, It.code (sub (bd Tryd.f12) [1, 1, 1, 1, 0, 1, 0, 0, 1, 1]), It.code (sub (bd Tryd.f12) [1, 1, 1, 1, 0, 1, 0]), It.blk 0, It.code (sub (bd Tryd.f12) [1, 1, 1, 1, 1])] { fr := frame 260 [(1, T.ptr 0 b0 0), (4, T.v (Value.string z)), (5, str B), (6, int n)], ob := [(b0, Ob.cells C)], gl := fun x => none }) (TCalls Tryd.prog 37 [str B] [] none_ (callPost (Hint.call false Unit (fun x => True) [] false (fun x => str SB) (fun x => []) fun x => none_)) ∧ ∀ (a : Unit), True → Q (T.tup [str SB, bool true]) [] fun x => none)) (by kernel_rfl) ?_
    repeat' (first | exact rfl | exact Nat.le_of_ble_eq_true rfl | refine And.intro ?_ ?_ | intro _ | refine bsplit_mk (fun _ => ?_) (fun _ => ?_))
    all_goals first
      | exact hs
      | exact hQ1
      | (exfalso; simp only [decide_eq_true_eq] at *; omega)
      | trace_state
  | cons x r ih =>
    intro d h1 h2
    have hmem : x ∈ lets f.kind := by rw [h1]; simp
    have hil := Frm.lets_ok f.kind x hmem
    have hz := zat (lets f.kind) d r x h1 (let_lt hil)
    have hsz : (⟨(letS (lets f.kind)).toArray⟩ : ByteArray).size = (lets f.kind).length := by show (letS (lets f.kind)).toArray.size = _; simp [letS]
    have hlt : d.length < (⟨(letS (lets f.kind)).toArray⟩ : ByteArray).size := by rw [hsz, h1]; simp
    have hdl : d.length ≤ 100 := by rw [h1] at hl6; simp at hl6; omega
    have hfl := Frm.flat_le (f := f.fb) d (fun c hc => fb_len hf c (h2 c hc))
    have hdl6 : d.length ≤ 6 := by rw [h1] at hl6; simp at hl6; omega
    have hS : (f.hb ++ d.flatMap f.fb).length ≤ 5000 := by rw [List.length_append]; omega
    have hbad : f.may x = false → Q (.tup [str [], bool false]) [] none_ := fun h => hQ0 (by
      unfold Frm.Fm.good
      rw [hk, Bool.true_and]
      cases hh : (lets f.kind).all f.may with
      | false => rfl
      | true => rw [List.all_eq_true] at hh; rw [hh x hmem] at h; cases h)
    have nx := fun h : f.may x = true => ih (d ++ [x]) (by rw [h1]; simp) (fun y hy => (List.mem_append.1 hy).elim (h2 y) (fun hy => by rw [List.mem_singleton.1 hy]; exact h))
    rw [List.flatMap_append, ← List.append_assoc, List.flatMap_cons, List.flatMap_nil, List.append_nil, show (d ++ [x]).length = d.length + 1 by simp] at nx
    clear ih hQ0 hQ1
    generalize (⟨(letS (lets f.kind)).toArray⟩ : ByteArray) = z at *
    generalize f.hb ++ d.flatMap f.fb = S at *
    generalize d.length = n at *
    unfold Frm.isLet at hil
    simp at hil
    rcases hil with rfl | rfl | rfl | rfl | rfl | rfl | rfl | rfl | rfl | rfl | rfl | rfl | rfl | rfl
    · exact renc_e Γ b0 f z S n Q hf hS hlt hdl hz (nx rfl)
    · exact renc_k Γ b0 f z S n Q hf hS hlt hdl hz hbad nx
    · exact renc_s Γ b0 f z S n Q hf hS hlt hdl hz (nx rfl)
    · exact renc_v Γ b0 f z S n Q hf hS hlt hdl hz hbad nx
    · exact renc_r Γ b0 f z S n Q hf hS hlt hdl hz (nx rfl)
    · exact renc_f Γ b0 f z S n Q hf hS hlt hdl hz (nx rfl)
    · exact renc_d Γ b0 f z S n Q hf hS hlt hdl hz (nx rfl)
    · exact renc_l Γ b0 f z S n Q hf hS hlt hdl hz (nx rfl)
    · exact renc_q Γ b0 f z S n Q hf hS hlt hdl hz (nx rfl)
    · exact renc_b Γ b0 f z S n Q hf hS hlt hdl hz (nx rfl)
    · exact renc_n Γ b0 f z S n Q hf hS hlt hdl hz (nx rfl)
    · exact renc_c Γ b0 f z S n Q hf hS hlt hdl hz (nx rfl)
    · exact renc_w Γ b0 f z S n Q hf hS hlt hdl hz hbad nx
    · exact renc_t Γ b0 f z S n Q hf hS hlt hdl hz hbad nx
end
theorem renc_any (f : Fm) (hf : f.Ok) : TCalls Tryd.prog 12 [.agg (frC f)] [] none_ (callPost (told (rencT f) [] [])) := by
  have hQ : ∀ x, x = rencT f → callPost (told (rencT f) [] []) x [] none_ := fun x h => told_post h
  generalize callPost (told (rencT f) [] []) = Q at *
  have hQ1 : f.good = true → Q (.tup [str (Crc.sealL f.bytes), bool true]) [] none_ := fun h => hQ _ (by unfold rencT Frm.Fm.enc; rw [if_pos h, h])
  have hQ0 : f.good = false → Q (.tup [str [], bool false]) [] none_ := fun h => hQ _ (by unfold rencT Frm.Fm.enc; rw [if_neg (by rw [h]; decide), h])
  have hr := rfields_post f.kind hf.kind
  have hz : str (letS (lets f.kind)) = .v (.string ⟨(letS (lets f.kind)).toArray⟩) := rfl
  have hne := strne (letS (lets f.kind))
  by_cases hk : Frm.hasKind f.kind = true
  · have lp := fun Γ b0 => renc_loop Γ b0 f Q hf hk hQ1 hQ0 (lets f.kind) [] rfl (fun x h => by cases h)
    rw [List.flatMap_nil, List.append_nil] at lp
    have hn : decide (letS (lets f.kind) = []) = false := by
      rw [decide_eq_false_iff_not]
      intro h
      have h2 := Frm.lets_kind f.kind
      rw [hk, decide_eq_true_eq] at h2
      have h3 := congrArg List.length h
      rw [letS_len] at h3
      exact h2 (List.length_eq_zero_iff.1 h3)
    rw [hn] at hne
    rw [show f.hb = (be 1 f.kind ++ be 1 f.frm) ++ be 1 f.to by rw [List.append_assoc]; rfl] at lp
    have s0 := rone_post f.kind hf.kind
    have s1 := rone_post f.frm hf.frm
    have s2 := rone_post f.to hf.to
    have l0 : (be 1 f.kind).length = 1 := length_be 1 _
    have l1 : (be 1 f.frm).length = 1 := length_be 1 _
    have l2 : (be 1 f.to).length = 1 := length_be 1 _
    rw [hz] at hr
    clear hQ hQ1 hQ0 hz hn
    generalize be 1 f.kind = x0 at *
    generalize be 1 f.frm = x1 at *
    generalize be 1 f.to = x2 at *
    generalize (⟨(letS (lets f.kind)).toArray⟩ : ByteArray) = z at *
    refine TCalls.of Tryd.func12 rfl (CanCall.of Tryd.func12 rfl (by decide)) [] fun Γ => ?_
    refine run_sound (⟨fun | 1, 2 => told (.v (.string z)) [] [] | 4, 2 => told (str x0) [] [] | 4, 5 => told (str x1) [] [] | 4, 6 => .res (str (x0 ++ x1)) | 4, 9 => told (str x2) [] [] | 4, 10 => .res (str ((x0 ++ x1) ++ x2)) | _, _ => .no, [((2, 6), ([1, 4, 5, 6], 1))], fun | 4 => some ⟨[0], [9], .take true [0,1,3,4,7,8] (.one 2 (.one 5 (.take false [6] (.one 9 (.take false [10,11] .done)))))⟩ | 24 => some ⟨[], [10], .take false [0,1,4,8] (.take true [2,5,9] (.one 3 (.one 6 (.take false [7] (.one 10 (.take false [11,12,13] .done))))))⟩ | 28 => some ⟨[], [], .take true [0,1,2,4,5,6,7,10,11] (.one 3 (.one 8 (.take true [9,12,13,14] .done)))⟩ | 40 => some ⟨[], [6], .take false [0,1,4] (.take true [2,5] (.one 3 (.one 6 (.take false [7,8,9] .done))))⟩ | 48 => some ⟨[], [8], .take false [0,1,4] (.take true [2,5,6,7] (.one 3 (.one 8 (.take false [9,10,11] .done))))⟩ | 52 => some ⟨[], [22], .take false [0,1,3,8,10,16,18] (.take true [2,4,5,6,9,11,12,13,17,19,20,21] (.one 7 (.one 14 (.take false [15] (.one 22 (.take false [23,24,25] .done))))))⟩ | 16 => some ⟨[], [14], .take false [0,1,4,8,12] (.take true [2,5,9,13] (.one 3 (.one 6 (.take false [7] (.one 10 (.take false [11] (.one 14 (.take false [15,16,17] .done))))))))⟩ | _ => none⟩) 400 (B := ∀ (b : Nat), b = b ∧ TCalls Tryd.prog 32 [u8 (Fm.kind f)] [] none_ (callPost (Hint.call false Unit (fun x => True) [] false (fun x => T.v (Value.string z)) (fun x => []) fun x => none_)) ∧ ∀ (a : Unit), True → bsplit (decide (z = (ByteArray.mk (#[])))) (Q (T.tup [str [], bool false]) [] fun x => none) (b = b ∧ b = b ∧ b = b ∧ TCalls Tryd.prog 33 [u8 (Fm.kind f)] [] none_ (callPost (Hint.call false Unit (fun x => True) [] false (fun x => str x0) (fun x => []) fun x => none_)) ∧ ∀ (a : Unit), True → TCalls Tryd.prog 33 [u8 (Fm.frm f)] [] none_ (callPost (Hint.call false Unit (fun x => True) [] false (fun x => str x1) (fun x => []) fun x => none_)) ∧ ∀ (a : Unit), True → ByteArray.size (ByteArray.mk (List.toArray x0)) + ByteArray.size (ByteArray.mk (List.toArray x1)) ≤ 9223372036854775807 ∧ some (T.v (Value.string ((ByteArray.mk (List.toArray x0)) ++ (ByteArray.mk (List.toArray x1))))) = some (str (x0 ++ x1)) ∧ TCalls Tryd.prog 33 [u8 (Fm.to f)] [] none_ (callPost (Hint.call false Unit (fun x => True) [] false (fun x => str x2) (fun x => []) fun x => none_)) ∧ ∀ (a : Unit), True → ByteArray.size (ByteArray.mk (List.toArray (x0 ++ x1))) + ByteArray.size (ByteArray.mk (List.toArray x2)) ≤ 9223372036854775807 ∧ some (T.v (Value.string ((ByteArray.mk (List.toArray (x0 ++ x1))) ++ (ByteArray.mk (List.toArray x2))))) = some (str (x0 ++ x1 ++ x2)) ∧ TWk Tryd.prog Γ (fin Tryd.prog Tryd.f12 [] Q) [It.code (sub (bd Tryd.f12) [1, 1, 1, 1, 0, 1, 0]), It.blk 0, It.code (sub (bd Tryd.f12) [1, 1, 1, 1, 1])] { fr := frame 260 [(1, T.ptr 0 b 0), (4, T.v (Value.string z)), (5, str (x0 ++ x1 ++ x2)), (6, int 0)], ob := [(b, Ob.cells (frC f))], gl := fun x => none })) (by kernel_rfl) ?_
    repeat' (first | exact rfl | exact Nat.le_of_ble_eq_true rfl | refine And.intro ?_ ?_ | intro _ | refine bsplit_mk (fun _ => ?_) (fun _ => ?_))
    all_goals first
      | exact hr
      | exact s0
      | exact s1
      | exact s2
      | exact lp _ _
      | exact catL _ _
      | exact cat_ok _ _ (by first | omega | (simp only [List.length_append]; omega))
      | (exfalso; rename_i hh; rw [hne] at hh; cases hh)
      | trace_state
  · have hk : Frm.hasKind f.kind = false := by simpa using hk
    have hn : decide (letS (lets f.kind) = []) = true := by
      rw [decide_eq_true_eq]
      have h2 := Frm.lets_kind f.kind
      rw [hk, decide_eq_false_iff_not, Classical.not_not] at h2
      rw [h2]; rfl
    rw [hn] at hne
    have hQ0 := hQ0 (by unfold Frm.Fm.good; rw [hk]; rfl)
    rw [hz] at hr
    clear hQ hQ1 hz hn
    generalize (⟨(letS (lets f.kind)).toArray⟩ : ByteArray) = z at *
    refine TCalls.of Tryd.func12 rfl (CanCall.of Tryd.func12 rfl (by decide)) [] fun Γ => ?_
    refine run_sound (⟨fun | 1, 2 => told (.v (.string z)) [] [] | _, _ => .no, [((0, 4), ([1, 4], 1))], fun | 4 => some ⟨[], [9], .take true [0,1,3,4,7,8] (.one 2 (.one 5 (.take false [6] (.one 9 (.take false [10,11] .done)))))⟩ | 24 => some ⟨[], [10], .take false [0,1,4,8] (.take true [2,5,9] (.one 3 (.one 6 (.take false [7] (.one 10 (.take false [11,12,13] .done))))))⟩ | 28 => some ⟨[], [], .take true [0,1,2,4,5,6,7,10,11] (.one 3 (.one 8 (.take true [9,12,13,14] .done)))⟩ | 40 => some ⟨[], [6], .take false [0,1,4] (.take true [2,5] (.one 3 (.one 6 (.take false [7,8,9] .done))))⟩ | 48 => some ⟨[], [8], .take false [0,1,4] (.take true [2,5,6,7] (.one 3 (.one 8 (.take false [9,10,11] .done))))⟩ | 52 => some ⟨[], [22], .take false [0,1,3,8,10,16,18] (.take true [2,4,5,6,9,11,12,13,17,19,20,21] (.one 7 (.one 14 (.take false [15] (.one 22 (.take false [23,24,25] .done))))))⟩ | 16 => some ⟨[], [14], .take false [0,1,4,8,12] (.take true [2,5,9,13] (.one 3 (.one 6 (.take false [7] (.one 10 (.take false [11] (.one 14 (.take false [15,16,17] .done))))))))⟩ | _ => none⟩) 400 (B := ∀ (b : Nat), b = b ∧ TCalls Tryd.prog 32 [u8 (Fm.kind f)] [] none_ (callPost (Hint.call false Unit (fun x => True) [] false (fun x => T.v (Value.string z)) (fun x => []) fun x => none_)) ∧ ∀ (a : Unit), True → bsplit (decide (z = (ByteArray.mk (#[])))) (Q (T.tup [str [], bool false]) [] fun x => none) (TWk Tryd.prog Γ (fin Tryd.prog Tryd.f12 [] Q) [It.code (sub (bd Tryd.f12) [1, 1, 1])] { fr := frame 260 [(1, T.ptr 0 b 0), (4, T.v (Value.string z))], ob := [(b, Ob.cells (frC f))], gl := fun x => none })) (by kernel_rfl) ?_
    repeat' (first | exact rfl | exact Nat.le_of_ble_eq_true rfl | refine And.intro ?_ ?_ | intro _ | refine bsplit_mk (fun _ => ?_) (fun _ => ?_))
    all_goals first
      | exact hr
      | exact hQ0
      | (exfalso; rename_i hh; rw [hne] at hh; cases hh)
      | trace_state
end X6
end Go.Proofs.YtaepgceodcdnhaaDoor.Vm
/- Frames: plain, what is read of a frame's own bytes. No program is named here. -/
namespace Go.Proofs.YtaepgceodcdnhaaDoor.Frm
open Oct (getN takeL be length_be)
def at0 (l : List UInt8) : RS := ⟨l, 0, false⟩
theorem rd_num (k n : Nat) (r : List UInt8) (h : n < 256 ^ k) : rnum k (at0 (be k n ++ r)) = n ∧ rgo k (at0 (be k n ++ r)) = at0 r := by
  have e : takeL (be k n ++ r) 0 0 k = (be k n, r, 0) := by
    rw [take0_ok _ _ (by rw [List.length_append, length_be]; omega)]
    rw [List.take_append_of_le_length (by rw [length_be]; omega), List.take_of_length_le (by rw [length_be]; omega), List.drop_append_of_le_length (by rw [length_be]; omega), List.drop_of_length_le (by rw [length_be]; omega)]; rfl
  constructor
  · show getN (takeL (be k n ++ r) 0 0 k).1 = n
    rw [e]; exact Oct.getN_be k n h
  · show RS.mk (takeL (be k n ++ r) 0 0 k).2.1 (takeL (be k n ++ r) 0 0 k).2.2 false = _
    rw [e]; rfl
theorem rd1 {n : Nat} (h : n < 256) (r : List UInt8) : rnum 1 (at0 (be 1 n ++ r)) = n := (rd_num 1 n r h).1
theorem go1 {n : Nat} (h : n < 256) (r : List UInt8) : rgo 1 (at0 (be 1 n ++ r)) = at0 r := (rd_num 1 n r h).2
theorem rd4 {n : Nat} (h : n < 4294967296) (r : List UInt8) : rnum 4 (at0 (be 4 n ++ r)) = n := (rd_num 4 n r h).1
theorem go4 {n : Nat} (h : n < 4294967296) (r : List UInt8) : rgo 4 (at0 (be 4 n ++ r)) = at0 r := (rd_num 4 n r h).2
theorem must_t (s : RS) : must true s = s := by unfold must; rw [if_neg (fun g => by cases g.1)]
theorem wrong0 (l : List UInt8) : wrong (at0 l) = false := rfl
theorem rd_flag (b : Bool) (r : List UInt8) : flagB (at0 (be 1 (one b) ++ r)) = b ∧ flagS (at0 (be 1 (one b) ++ r)) = at0 r := by
  unfold flagB flagS
  rw [rd1 (one_lt b), go1 (one_lt b)]
  cases b
  · exact ⟨rfl, must_t _⟩
  · exact ⟨rfl, must_t _⟩
theorem rd_cmd {c : Cmd} (h : c.Ok) (r : List UInt8) : cmdR (at0 (c.bs ++ r)) = c ∧ cmdS (at0 (c.bs ++ r)) = at0 r := by
  have e : c.bs ++ r = be 1 c.k ++ (be 1 c.n ++ (be 1 c.l ++ (be 4 c.e ++ (be 4 c.q ++ r)))) := by unfold Cmd.bs; simp only [List.append_assoc]
  rw [e]
  unfold cmdR cmdS
  rw [go1 h.k, go1 h.n, go1 h.l, go4 h.e, go4 h.q, rd1 h.k, rd1 h.n, rd1 h.l, rd4 h.e, rd4 h.q]
  exact ⟨rfl, rfl⟩
theorem rd_mem {m : Mem} (h : m.Ok) (r : List UInt8) : memR (at0 (m.bs ++ r)) = m ∧ memS (at0 (m.bs ++ r)) = at0 r := by
  have e : m.bs ++ r = be 1 m.n ++ (be 1 m.l ++ (be 1 (one m.r) ++ r)) := by unfold Mem.bs; simp only [List.append_assoc]
  rw [e]
  unfold memR memS
  rw [go1 h.n, go1 h.l, rd1 h.n, rd1 h.l, (rd_flag m.r r).1, (rd_flag m.r r).2]
  exact ⟨rfl, rfl⟩
theorem rd_mems : ∀ (ms : List Mem), (∀ m ∈ ms, m.Ok) → ∀ r, memsR ms.length (at0 (ms.flatMap Mem.bs ++ r)) = (ms, at0 r)
  | [], _, _ => rfl
  | m :: ms, h, r => by
    rw [List.flatMap_cons, List.append_assoc, List.length_cons]
    unfold memsR
    have hm := rd_mem (h m (by simp)) (ms.flatMap Mem.bs ++ r)
    rw [wrong0, if_neg (by decide), hm.1, hm.2, rd_mems ms (fun x hx => h x (by simp [hx])) r]
theorem rd_ent {x : Ent} (h : x.Ok) (r : List UInt8) : entR (at0 (x.bs ++ r)) = x ∧ entS (at0 (x.bs ++ r)) = at0 r := by
  have e : x.bs ++ r = be 4 x.s ++ (be 4 x.n ++ (be 1 x.b ++ (x.c.bs ++ r))) := by unfold Ent.bs; simp only [List.append_assoc]
  rw [e]
  unfold entR entS markS
  rw [go4 h.s, go4 h.n, go1 h.b, rd4 h.s, rd4 h.n, rd1 h.b, (rd_cmd h.c r).1, (rd_cmd h.c r).2]
  exact ⟨rfl, rfl⟩
theorem rd_ents : ∀ (es : List Ent), (∀ m ∈ es, m.Ok) → ∀ r, entsR es.length (at0 (es.flatMap Ent.bs ++ r)) = (es, at0 r)
  | [], _, _ => rfl
  | m :: es, h, r => by
    rw [List.flatMap_cons, List.append_assoc, List.length_cons]
    unfold entsR
    have hm := rd_ent (h m (by simp)) (es.flatMap Ent.bs ++ r)
    rw [wrong0, if_neg (by decide), hm.1, hm.2, rd_ents es (fun x hx => h x (by simp [hx])) r]
theorem rd_cnt {n most : Nat} (h : n < 256) (hm : n ≤ most) (r : List UInt8) : cntS most (at0 (be 1 n ++ r)) = at0 r ∧ cntN most (at0 (be 1 n ++ r)) = n := by
  have e : cntS most (at0 (be 1 n ++ r)) = at0 r := by unfold cntS; rw [rd1 h, go1 h, decide_eq_true hm, must_t]
  refine ⟨e, ?_⟩
  unfold cntN
  rw [e, wrong0, if_neg (by decide), rd1 h]
theorem lvs_bytes {l : Lvs} (h : l.Ok) : lvsOf l.bs = l := by
  have k : ∀ n, n < 256 → (UInt8.ofNat n).toNat = n := fun n h => by rw [UInt8.toNat_ofNat']; omega
  show Lvs.mk (UInt8.ofNat l.l0).toNat (UInt8.ofNat l.l1).toNat (UInt8.ofNat l.l2).toNat (UInt8.ofNat l.l3).toNat (UInt8.ofNat l.l4).toNat (UInt8.ofNat l.l5).toNat (UInt8.ofNat l.l6).toNat (UInt8.ofNat l.l7).toNat = l
  rw [k _ h.l0, k _ h.l1, k _ h.l2, k _ h.l3, k _ h.l4, k _ h.l5, k _ h.l6, k _ h.l7]
theorem take8 (l : Lvs) (r : List UInt8) : takeL (l.bs ++ r) 0 0 8 = (l.bs, r, 0) := by
  have e : takeL (l.bs ++ r) 0 0 (8 : Nat) = ((l.bs ++ r).take 8, (l.bs ++ r).drop 8, 0) := take0_ok _ _ (by rw [List.length_append, show l.bs.length = 8 from rfl]; omega)
  exact e
theorem rd_view {f : Fm} (h : f.Ok) (hm : f.ms.length ≤ 8) (r : List UInt8) : viewR (at0 (f.fb 119 ++ r)) = ((f.ve, f.ms, f.lv), at0 r) := by
  have e : f.fb 119 ++ r = be 4 f.ve ++ (be 1 f.ms.length ++ (f.ms.flatMap Mem.bs ++ (f.lv.bs ++ r))) := by
    show (be 4 f.ve ++ (be 1 f.ms.length ++ (f.ms.flatMap Mem.bs ++ f.lv.bs))) ++ r = _
    simp only [List.append_assoc]
  rw [e]
  unfold viewR
  have hc := rd_cnt (n := f.ms.length) (most := 8) (by omega) hm (f.ms.flatMap Mem.bs ++ (f.lv.bs ++ r))
  rw [go4 h.ve, rd4 h.ve, hc.1, hc.2]
  dsimp only
  rw [rd_mems f.ms h.mo]
  dsimp only
  rw [wrong0, if_neg (by decide)]
  show ((f.ve, f.ms, lvsOf (takeL (f.lv.bs ++ r) 0 0 8).1), RS.mk (takeL (f.lv.bs ++ r) 0 0 8).2.1 (takeL (f.lv.bs ++ r) 0 0 8).2.2 false) = _
  rw [take8, lvs_bytes h.lv]; rfl
theorem rd_val {f : Fm} (hm : valOk f.has f.x = true) (r : List UInt8) : valR (at0 (f.fb 118 ++ r)) = ((f.has, f.x), at0 r) := by
  have hx : f.x.length ≤ 32 := by unfold valOk at hm; simp at hm; exact hm.1
  have e : f.fb 118 ++ r = be 1 (one f.has) ++ (UInt8.ofNat f.x.length :: (f.x ++ r)) := by
    show (be 1 (one f.has) ++ (UInt8.ofNat f.x.length :: f.x)) ++ r = _
    simp
  rw [e]
  unfold valR
  have hf := rd_flag f.has (UInt8.ofNat f.x.length :: (f.x ++ r))
  rw [hf.1, hf.2, wrong0, if_neg (by decide)]
  have hn : txtN (UInt8.ofNat f.x.length :: (f.x ++ r)) = (1, f.x.length) := by
    show (1, (UInt8.ofNat f.x.length).toNat) = _
    rw [UInt8.toNat_ofNat']
    congr 1; omega
  have et : takeL (UInt8.ofNat f.x.length :: (f.x ++ r)) 0 ((1 : Nat) : Int) (f.x.length : Nat) = (f.x, r, 0) := by
    unfold takeL
    rw [if_neg (by decide), if_neg (by omega), if_neg (by simp; omega)]
    rw [show (((1 : Nat) : Int) + (f.x.length : Int)).toNat = f.x.length + 1 by omega, List.take_succ_cons, List.drop_succ_cons]
    simp
  have ex : txtX (at0 (UInt8.ofNat f.x.length :: (f.x ++ r))) = f.x := by
    unfold txtX; rw [show (at0 (UInt8.ofNat f.x.length :: (f.x ++ r))).l = UInt8.ofNat f.x.length :: (f.x ++ r) from rfl, hn]
    show (takeL _ 0 ((1 : Nat) : Int) (f.x.length : Nat)).1 = _
    rw [et]
  have es : txtS (at0 (UInt8.ofNat f.x.length :: (f.x ++ r))) = at0 r := by
    unfold txtS; rw [show (at0 (UInt8.ofNat f.x.length :: (f.x ++ r))).l = UInt8.ofNat f.x.length :: (f.x ++ r) from rfl, hn]
    show RS.mk (takeL _ 0 ((1 : Nat) : Int) (f.x.length : Nat)).2.1 (takeL _ 0 ((1 : Nat) : Int) (f.x.length : Nat)).2.2 false = _
    rw [et]; rfl
  rw [ex, es, hm, must_t]
/-- a field of one frame in another -/
def setF (c : Nat) (f g : Fm) : Fm :=
  if c = 101 then { g with ep := f.ep } else if c = 107 then { g with key := f.key } else if c = 115 then { g with sn := f.sn, sb := f.sb, sl := f.sl }
  else if c = 118 then { g with has := f.has, x := f.x } else if c = 114 then { g with rmw := f.rmw } else if c = 102 then { g with flag := f.flag }
  else if c = 100 then { g with dir := f.dir } else if c = 108 then { g with life := f.life } else if c = 113 then { g with req := f.req }
  else if c = 98 then { g with bn := f.bn, bb := f.bb } else if c = 110 then { g with slot := f.slot } else if c = 99 then { g with c := f.c }
  else if c = 119 then { g with ve := f.ve, ms := f.ms, lv := f.lv } else { g with es := f.es }
theorem rd_fld {f : Fm} (h : f.Ok) (c : Nat) (hl : isLet c = true) (hm : f.may c = true) (r : List UInt8) (g : Fm) : fldR c (at0 (f.fb c ++ r)) g = (setF c f g, at0 r) := by
  unfold isLet at hl
  simp at hl
  rcases hl with rfl | rfl | rfl | rfl | rfl | rfl | rfl | rfl | rfl | rfl | rfl | rfl | rfl | rfl
  · show ({ g with ep := rnum 4 (at0 (be 4 f.ep ++ r)) }, rgo 4 (at0 (be 4 f.ep ++ r))) = _
    rw [rd4 h.ep, go4 h.ep]; rfl
  · have hk : f.key < 6 := of_decide_eq_true hm
    show ({ g with key := rnum 1 (at0 (be 1 f.key ++ r)) }, must (decide (rnum 1 (at0 (be 1 f.key ++ r)) < 6)) (rgo 1 (at0 (be 1 f.key ++ r)))) = _
    rw [rd1 h.key, go1 h.key, decide_eq_true hk, must_t]; rfl
  · have e : f.fb 115 ++ r = be 4 f.sn ++ (be 1 f.sb ++ (be 1 f.sl ++ r)) := by
      show (be 4 f.sn ++ (be 1 f.sb ++ be 1 f.sl)) ++ r = _
      simp only [List.append_assoc]
    rw [e]
    show ({ g with sn := rnum 4 (at0 (be 4 f.sn ++ (be 1 f.sb ++ (be 1 f.sl ++ r)))), sb := rnum 1 (rgo 4 (at0 (be 4 f.sn ++ (be 1 f.sb ++ (be 1 f.sl ++ r))))), sl := rnum 1 (rgo 1 (rgo 4 (at0 (be 4 f.sn ++ (be 1 f.sb ++ (be 1 f.sl ++ r)))))) }, rgo 1 (rgo 1 (rgo 4 (at0 (be 4 f.sn ++ (be 1 f.sb ++ (be 1 f.sl ++ r))))))) = _
    rw [go4 h.sn, go1 h.sb, go1 h.sl, rd4 h.sn, rd1 h.sb, rd1 h.sl]; rfl
  · show ({ g with has := (valR (at0 (f.fb 118 ++ r))).1.1, x := (valR (at0 (f.fb 118 ++ r))).1.2 }, (valR (at0 (f.fb 118 ++ r))).2) = _
    rw [rd_val hm]; rfl
  · show ({ g with rmw := flagB (at0 (be 1 (one f.rmw) ++ r)) }, flagS (at0 (be 1 (one f.rmw) ++ r))) = _
    rw [(rd_flag _ _).1, (rd_flag _ _).2]; rfl
  · show ({ g with flag := flagB (at0 (be 1 (one f.flag) ++ r)) }, flagS (at0 (be 1 (one f.flag) ++ r))) = _
    rw [(rd_flag _ _).1, (rd_flag _ _).2]; rfl
  · show ({ g with dir := rnum 1 (at0 (be 1 f.dir ++ r)) }, rgo 1 (at0 (be 1 f.dir ++ r))) = _
    rw [rd1 h.dir, go1 h.dir]; rfl
  · show ({ g with life := rnum 1 (at0 (be 1 f.life ++ r)) }, rgo 1 (at0 (be 1 f.life ++ r))) = _
    rw [rd1 h.life, go1 h.life]; rfl
  · show ({ g with req := rnum 4 (at0 (be 4 f.req ++ r)) }, rgo 4 (at0 (be 4 f.req ++ r))) = _
    rw [rd4 h.req, go4 h.req]; rfl
  · have e : f.fb 98 ++ r = be 4 f.bn ++ (be 1 f.bb ++ r) := by
      show (be 4 f.bn ++ be 1 f.bb) ++ r = _
      simp only [List.append_assoc]
    rw [e]
    show ({ g with bn := rnum 4 (at0 (be 4 f.bn ++ (be 1 f.bb ++ r))), bb := rnum 1 (rgo 4 (at0 (be 4 f.bn ++ (be 1 f.bb ++ r)))) }, rgo 1 (rgo 4 (at0 (be 4 f.bn ++ (be 1 f.bb ++ r))))) = _
    rw [go4 h.bn, go1 h.bb, rd4 h.bn, rd1 h.bb]; rfl
  · show ({ g with slot := rnum 4 (at0 (be 4 f.slot ++ r)) }, rgo 4 (at0 (be 4 f.slot ++ r))) = _
    rw [rd4 h.slot, go4 h.slot]; rfl
  · show ({ g with c := cmdR (at0 (f.c.bs ++ r)) }, cmdS (at0 (f.c.bs ++ r))) = _
    rw [(rd_cmd h.c r).1, (rd_cmd h.c r).2]; rfl
  · have hk : f.ms.length ≤ 8 := of_decide_eq_true hm
    show ({ g with ve := (viewR (at0 (f.fb 119 ++ r))).1.1, ms := (viewR (at0 (f.fb 119 ++ r))).1.2.1, lv := (viewR (at0 (f.fb 119 ++ r))).1.2.2 }, (viewR (at0 (f.fb 119 ++ r))).2) = _
    rw [rd_view h hk]; rfl
  · have hk : f.es.length ≤ 16 := of_decide_eq_true hm
    have e : f.fb 116 ++ r = be 1 f.es.length ++ (f.es.flatMap Ent.bs ++ r) := by
      show (be 1 f.es.length ++ f.es.flatMap Ent.bs) ++ r = _
      simp only [List.append_assoc]
    rw [e]
    have hc := rd_cnt (n := f.es.length) (most := 16) (by omega) hk (f.es.flatMap Ent.bs ++ r)
    show ({ g with es := (entsR (cntN 16 (at0 (be 1 f.es.length ++ (f.es.flatMap Ent.bs ++ r)))) (cntS 16 (at0 (be 1 f.es.length ++ (f.es.flatMap Ent.bs ++ r))))).1 }, (entsR (cntN 16 (at0 (be 1 f.es.length ++ (f.es.flatMap Ent.bs ++ r)))) (cntS 16 (at0 (be 1 f.es.length ++ (f.es.flatMap Ent.bs ++ r))))).2) = _
    rw [hc.1, hc.2, rd_ents f.es h.eo]; rfl
theorem rd_flds {f : Fm} (h : f.Ok) : ∀ (cs : List Nat), (∀ c ∈ cs, isLet c = true) → (∀ c ∈ cs, f.may c = true) → ∀ r g, fldsR cs (at0 (cs.flatMap f.fb ++ r)) g = (cs.foldl (fun g c => setF c f g) g, at0 r)
  | [], _, _, _, _ => rfl
  | c :: cs, hl, hm, r, g => by
    rw [List.flatMap_cons, List.append_assoc]
    unfold fldsR
    rw [wrong0, if_neg (by decide), rd_fld h c (hl c (by simp)) (hm c (by simp))]
    exact rd_flds h cs (fun x hx => hl x (by simp [hx])) (fun x hx => hm x (by simp [hx])) r _
def headF (f : Fm) : Fm := { fm0 with kind := f.kind, frm := f.frm, to := f.to }
/-- a frame with the fields of its kind alone -/
def restr (f : Fm) : Fm := (lets f.kind).foldl (fun g c => setF c f g) (headF f)
theorem decB_bytes {f : Fm} (h : f.Ok) (hg : f.good = true) : decB f.bytes = (restr f, 0) := by
  unfold Fm.good at hg
  rw [Bool.and_eq_true, List.all_eq_true] at hg
  have e : f.bytes = be 1 f.kind ++ (be 1 f.frm ++ (be 1 f.to ++ ((lets f.kind).flatMap f.fb ++ []))) := by
    unfold Fm.bytes Fm.hb
    simp only [List.append_assoc, List.append_nil]
  have r1 := rd1 h.kind (be 1 f.frm ++ (be 1 f.to ++ ((lets f.kind).flatMap f.fb ++ [])))
  have g1 := go1 h.kind (be 1 f.frm ++ (be 1 f.to ++ ((lets f.kind).flatMap f.fb ++ [])))
  have r2 := rd1 h.frm (be 1 f.to ++ ((lets f.kind).flatMap f.fb ++ []))
  have g2 := go1 h.frm (be 1 f.to ++ ((lets f.kind).flatMap f.fb ++ []))
  have r3 := rd1 h.to ((lets f.kind).flatMap f.fb ++ [])
  have g3 := go1 h.to ((lets f.kind).flatMap f.fb ++ [])
  have hh : hdF f.bytes = headF f := by
    unfold hdF headF
    show ({ fm0 with kind := rnum 1 (at0 f.bytes), frm := rnum 1 (rgo 1 (at0 f.bytes)), to := rnum 1 (rgo 1 (rgo 1 (at0 f.bytes))) } : Fm) = _
    rw [e, g1, g2, r1, r2, r3]
  have hs : hdS f.bytes = at0 ((lets f.kind).flatMap f.fb ++ []) := by
    unfold hdS
    rw [hh]
    show must (hasKind f.kind) (rgo 1 (rgo 1 (rgo 1 (at0 f.bytes)))) = _
    rw [hg.1, must_t, e, g1, g2, g3]
  have hb : bodyR f.bytes = (restr f, at0 []) := by
    unfold bodyR
    rw [hh, hs, letsK_lets]
    exact rd_flds h (lets f.kind) (lets_ok f.kind) hg.2 [] (headF f)
  unfold decB
  rw [hb]; rfl
theorem openE_seal (l : List UInt8) : openE (Crc.sealL l) = 0 ∧ (Crc.sealL l).take ((Crc.sealL l).length - 4) = l := by
  have hl : (Crc.sealL l).length = l.length + 4 := by unfold Crc.sealL; rw [List.length_append]; rfl
  have ht : (Crc.sealL l).take ((Crc.sealL l).length - 4) = l := by
    rw [hl]; unfold Crc.sealL; rw [show l.length + 4 - 4 = l.length by omega, List.take_left]
  refine ⟨?_, ht⟩
  unfold openE
  rw [if_neg (by omega), ht, if_neg (fun g => g rfl)]
theorem dec_enc {f : Fm} (h : f.Ok) (hg : f.good = true) : decR (Crc.sealL f.bytes) = (restr f, 0) := by
  have ho := openE_seal f.bytes
  unfold decR
  rw [ho.1, if_neg (fun g => g rfl), ho.2]
  exact decB_bytes h hg
theorem restr_enc {f : Fm} (hk : hasKind f.kind = true) : (restr f).enc = f.enc := by
  obtain ⟨kind, frm, to, ep, key, sn, sb, sl, has, x, rmw, flag, dir, life, req, bn, bb, slot, c, ve, ms, lv, es⟩ := f
  have hk : 1 ≤ kind ∧ kind < 17 := of_decide_eq_true hk
  have : kind = 1 ∨ kind = 2 ∨ kind = 3 ∨ kind = 4 ∨ kind = 5 ∨ kind = 6 ∨ kind = 7 ∨ kind = 8 ∨ kind = 9 ∨ kind = 10 ∨ kind = 11 ∨ kind = 12 ∨ kind = 13 ∨ kind = 14 ∨ kind = 15 ∨ kind = 16 := by omega
  rcases this with rfl | rfl | rfl | rfl | rfl | rfl | rfl | rfl | rfl | rfl | rfl | rfl | rfl | rfl | rfl | rfl <;> rfl
theorem fm0_ok : fm0.Ok := by
  constructor <;> first | decide | (intro x hx; cases hx) | (constructor <;> decide)
theorem headF_ok {f : Fm} (h : f.Ok) : (headF f).Ok := { fm0_ok with kind := h.kind, frm := h.frm, to := h.to }
theorem setF_ok {f g : Fm} (h : f.Ok) (k : g.Ok) (c : Nat) : (setF c f g).Ok := by
  unfold setF
  by_cases e : c = 101
  · rw [if_pos e]; exact { k with ep := h.ep }
  rw [if_neg e]; clear e
  by_cases e : c = 107
  · rw [if_pos e]; exact { k with key := h.key }
  rw [if_neg e]; clear e
  by_cases e : c = 115
  · rw [if_pos e]; exact { k with sn := h.sn, sb := h.sb, sl := h.sl }
  rw [if_neg e]; clear e
  by_cases e : c = 118
  · rw [if_pos e]; exact { k with x := h.x }
  rw [if_neg e]; clear e
  by_cases e : c = 114
  · rw [if_pos e]; exact { k with }
  rw [if_neg e]; clear e
  by_cases e : c = 102
  · rw [if_pos e]; exact { k with }
  rw [if_neg e]; clear e
  by_cases e : c = 100
  · rw [if_pos e]; exact { k with dir := h.dir }
  rw [if_neg e]; clear e
  by_cases e : c = 108
  · rw [if_pos e]; exact { k with life := h.life }
  rw [if_neg e]; clear e
  by_cases e : c = 113
  · rw [if_pos e]; exact { k with req := h.req }
  rw [if_neg e]; clear e
  by_cases e : c = 98
  · rw [if_pos e]; exact { k with bn := h.bn, bb := h.bb }
  rw [if_neg e]; clear e
  by_cases e : c = 110
  · rw [if_pos e]; exact { k with slot := h.slot }
  rw [if_neg e]; clear e
  by_cases e : c = 99
  · rw [if_pos e]; exact { k with c := h.c }
  rw [if_neg e]; clear e
  by_cases e : c = 119
  · rw [if_pos e]; exact { k with ve := h.ve, ms := h.ms, mo := h.mo, lv := h.lv }
  rw [if_neg e]; exact { k with es := h.es, eo := h.eo }
theorem restr_ok {f : Fm} (h : f.Ok) : (restr f).Ok := by
  unfold restr
  have : ∀ (cs : List Nat) (g : Fm), g.Ok → (cs.foldl (fun g c => setF c f g) g).Ok := by
    intro cs
    induction cs with
    | nil => intro g k; exact k
    | cons c cs ih => intro g k; exact ih _ (setF_ok h k c)
  exact this _ _ (headF_ok h)
end Go.Proofs.YtaepgceodcdnhaaDoor.Frm
