/- Trees: contracts of the other style (Calls), told of trees: octet.Join, the document's number. -/
import Derived.Test.YtaepgceodcdnhaaDoorVmLib
import Derived.Test.YtaepgceodcdnhaaDoorOctN
namespace Go.Proofs.YtaepgceodcdnhaaDoor.Vm
open Go Go.RowKit
theorem TCalls.old {P : Program} {f : FuncId} {ts : List T} {r : T} (can : CanCall P f)
    (h : ∀ (M : Pm) (w : World) (xs : Array Value), HRel M [] none_ w → RelL M ts xs.toList → ∃ x, Rel M r x ∧ Calls P f xs w fun e w' => e = .returned x ∧ Below w.heap.size w w')
    (Q : T → Obs → Glb → Prop) (hQ : Q r [] none_) : TCalls P f ts [] none_ Q := ⟨can, fun M w xs hp hx => by
  obtain ⟨x, hr, hc⟩ := h M w xs hp hx
  refine hc.mono fun e w' ⟨he, hb⟩ => ⟨x, r, M, [], _, he, hr, hp.still fun b hb' => hb.block b hb', ?_, hQ⟩
  exact ⟨Pm.le_refl _, fun b o v hv => .inl hv, Fr.of_below hb, fun b hb => .inl hb⟩⟩
def str (l : List UInt8) : T := .v (.string ⟨l.toArray⟩)
namespace X1
open Oct (Part joinRes be room)
def partC (p : Part) : List T := [int p.kind, int p.size, u64 p.n, .v (.string p.s)]
def parts (ps : List Part) : List T := ps.map fun p => .agg (partC p)
theorem parts_len (ps : List Part) : (parts ps).length = ps.length := by simp [parts]
theorem parts_of {M : Pm} {ob : Obs} {gl : Glb} {w : World} (hp : HRel M ob gl w) {ps : List Part} {v : Value} (r : Rel M (.sl 4 (parts ps)) v) : ∃ A cap, v = .slice A ps.length cap ∧ Oct.Parts w A ps := by
  simp only [Rel, parts_len] at r
  obtain ⟨A, cap, e, ⟨d1, d2, d3, d4⟩, hl, hre⟩ := r
  refine ⟨A, cap, e, fun hne => ?_⟩
  have hn : 0 < ps.length := List.length_pos_iff.2 (fun e => hne (by rw [e]; rfl))
  cases A with
  | none => have := (d3 rfl).1; omega
  | some ad =>
    have h4 := d4 ad rfl (by omega)
    obtain ⟨b, o, sp⟩ := ad
    simp only at h4
    subst h4
    have hrel := hre b o rfl
    have key : ∀ (k : Nat) (row : List Value), (ps.map Part.cells)[k]? = some row → ∀ (j : Nat) (u : Value), row[j]? = some u → w.cell? ⟨b, o + k * 4 + j, none⟩ = some u := fun k row hr j u hu => by
      rw [List.getElem?_map, Option.map_eq_some_iff] at hr
      obtain ⟨p, hp1, rfl⟩ := hr
      have he : (parts ps)[k]? = some (.agg (partC p)) := by rw [parts, List.getElem?_map, hp1]; rfl
      have h5 := hrel.el he
      have ht : (partC p)[j]? = some (.v u) := by
        have : partC p = (Part.cells p).map T.v := rfl
        rw [this, List.getElem?_map, hu]; rfl
      obtain ⟨u', h6, h7⟩ := RelA.get (ts := partC p) h5 ht
      simp only [Rel] at h7
      subst h7
      exact (hp.promise _ _ _ h6).1
    refine ⟨b, o, rfl, ?_, key⟩
    obtain ⟨p, hp0⟩ : ∃ p, ps[0]? = some p := ⟨ps[0], List.getElem?_eq_getElem hn⟩
    have := key 0 (Part.cells p) (by rw [List.getElem?_map, hp0]; rfl) 0 (.int .i64 p.kind) rfl
    have := World.block_lt_of_cell? w _ this
    exact this
theorem join_any (ps : List Part) (hroom : room ps ≤ 140737488355328) (hn : ∀ p ∈ ps, p.n < 18446744073709551616) (hl : ps.length ≤ 9223372036854775807) (Q : T → Obs → Glb → Prop)
    (hQ : ∀ x, x = .tup [str (joinRes ps []).1, int (joinRes ps []).2] → Q x [] none_) : TCalls Tryd.prog 31 [.sl 4 (parts ps)] [] none_ Q := by
  refine TCalls.old (CanCall.of Tryd.func31 rfl (by decide)) (fun M w xs hp hx => ?_) Q (hQ _ rfl)
  simp only [RelL] at hx
  obtain ⟨v, us, e, h1, rfl⟩ := hx
  obtain ⟨A, cap, rfl, hP⟩ := parts_of hp h1
  have e2 : xs = #[.slice A ps.length cap] := Array.toList_inj.1 e
  subst e2
  refine ⟨_, ?_, Oct.Join_any A cap ps w hP hroom hn hl⟩
  simp only [Rel, str, int]
  exact ⟨_, rfl, by simp only [RelL]; exact ⟨_, _, rfl, by simp only [Rel], _, _, rfl, by simp only [Rel], rfl⟩⟩
theorem rnum_any (n k : Nat) (hk : k ≤ 8) (hn : n < 18446744073709551616) (Q : T → Obs → Glb → Prop) (hQ : ∀ x, x = str (be k n) → Q x [] none_) : TCalls Tryd.prog 66 [u64 n, int k] [] none_ Q := by
  refine TCalls.old (CanCall.of Tryd.func66 rfl (by decide)) (fun M w xs hp hx => ?_) Q (hQ _ rfl)
  simp only [RelL, u64, int, Rel] at hx
  obtain ⟨v, us, e, rfl, v2, us2, rfl, rfl, rfl⟩ := hx
  have e2 : xs = #[.int .u64 n, .int .i64 k] := Array.toList_inj.1 e
  subst e2
  exact ⟨_, by simp only [Rel, str], Joins.RNum n k w hk hn⟩
end X1
end Go.Proofs.YtaepgceodcdnhaaDoor.Vm
