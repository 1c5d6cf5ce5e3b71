/- Trees: a string's bytes copied into an array. No program is named here. -/
import Derived.Test.YtafcbipmmjegcaaVmA
namespace Go.Proofs.Ytafcbipmmjegcaa.Vm
open Go Go.RowKit
section
variable {P : Program} {Γ : Ctx} {M : Pm} {s : S} {a : Act} {w : World} {o : Oper} {h : Hint} {K : S → Prop} {Q : Exit → Act → World → Prop}
def bytesV (z : ByteArray) : List Value := z.data.toList.map fun b => Value.int .u8 b.toNat
theorem bytesV_rel (z : ByteArray) : RelL M (bytesL z) (bytesV z) := by
  have : bytesL z = (bytesV z).map T.v := by unfold bytesL bytesV; rw [List.map_map]; rfl
  rw [this]; exact RelL.vs _
theorem bytesV_len (z : ByteArray) : (bytesV z).length = z.size := by unfold bytesV; rw [List.length_map, Array.length_toList]; rfl
theorem bytesV_run (z : ByteArray) : ((z.extract 0 z.size).data.map fun b => Value.int .u8 b.toNat).toList = bytesV z := by
  have : z.extract 0 z.size = z := by
    apply ByteArray.ext
    rw [ByteArray.data_extract]
    show z.data.extract 0 z.data.size = z.data
    simp
  rw [this, Array.toList_map]; rfl
theorem sCopy {c : Call} (ho : o.op = .call c) (hc : c.callee = .builtin .copy) (H : eCopy P s o.dst h (c.args.toList.map s.eval) c.argTypes.toList K) (hs : St Γ M s a w) : o.wp P a w (Post Γ K) Q := by
  obtain ⟨callee, ⟨args⟩, ⟨tys⟩⟩ := c
  simp only at hc H
  subst hc
  unfold eCopy at H
  split at H
  rotate_left
  · exact H.elim
  rename_i i b off n cap z t t2 hargs
  have hal : args.length = 2 := by have := congrArg List.length hargs; simpa using this
  match args, hal with
  | [x, y], _ =>
  simp only [List.map_cons, List.map_nil, List.cons.injEq, and_true] at hargs
  have hr := eval_rel hs.fr x
  rw [hargs.1] at hr
  simp only [Rel] at hr
  have hry := eval_rel hs.fr y
  rw [hargs.2] at hry
  simp only [Rel] at hry
  split at H
  rotate_left
  · exact H.elim
  rename_i e hel
  split at H
  rotate_left
  · exact H.elim
  rename_i b' cs hk hob
  obtain ⟨rfl, ⟨hzn, hfit⟩, H⟩ := H
  have H := claimL_some H
  have hu : P.underlying t = some (.slice e) := by
    unfold elemOfT at hel
    split at hel
    · injection hel with hel; injection hel with h1 h2; cases h1
    · rename_i hu; injection hel with hel; injection hel with h1 h2; subst h2; exact hu
    · cases hel
  obtain ⟨C, et, hh, hC, hM⟩ := hs.hp.objs _ _ hob
  have hcl : C.size = cs.length := by have := hC.len; simpa using this
  have hlen := bytesV_len z
  have hset : RelL M (setCells cs off (bytesL z)) (C.toList.take off ++ bytesV z ++ C.toList.drop (off + z.size)) := relL_setCells hC (bytesV_rel z) _ _ (by unfold bytesL; rw [List.length_map, Array.length_toList]; rfl)
  have hone : ∀ v ∈ bytesV z, v.oneCell' = true := fun v hv => by
    obtain ⟨u, _, rfl⟩ := List.mem_map.1 hv
    rfl
  have hst := run_storeCells_z P b' off et (bytesV z) 0 C w hh (by rw [hlen]; omega) hone
  simp only [Nat.add_zero, hlen] at hst
  have hfr : Go.Proofs.Ytafcbipmmjegcaa.Fr (· = b') w (w.setRow b' (C.toList.take off ++ bytesV z ++ C.toList.drop (off + z.size)).toArray) := Fr.setRow (S := (· = b')) (Fr.refl _ _) (.inr rfl) _
  have hst2 := hs.turned hob (b := b') rfl hM hfr (y := (b', .cells (setCells cs off (bytesL z)))) ⟨_, et, hh.setRow (by simp only [List.size_toArray, List.length_append, List.length_take, List.length_drop, hlen]; rw [Array.length_toList]; omega), hset, hM⟩ rfl
  have hrun : (Builtin.copy_ #[t, t2] o.type #[a.eval x, a.eval y]).run P w = .ok (.int .i64 z.size) (w.setRow b' (C.toList.take off ++ bytesV z ++ C.toList.drop (off + z.size)).toArray) := by
    rw [hr.1, hry]
    have e1 : min z.size n = z.size := by omega
    have e3 : ((z.extract 0 z.size).data.map fun b => Value.int .u8 b.toNat).toList = bytesV z := bytesV_run z
    simp only [Builtin.copy_, Builtin.lenOf, Builtin.firstCells]
    simp [run_underlying hu, run_sizeOf hk, e1, goInt]
    have e4 : List.take z.size (bytesV z) = bytesV z := List.take_of_length_le (by omega)
    simp at e3 hst
    first | rw [e4, hst] | rw [e3, e4, hst] | rw [e3, hst]
    rfl
  have hpost : Post Γ K (a.put o.dst (.int .i64 z.size)) (w.setRow b' (C.toList.take off ++ bytesV z ++ C.toList.drop (off + z.size)).toArray) := ⟨_, M, H, St.put hst2 o.dst (by simp only [Rel])⟩
  unfold Oper.wp execOp
  rw [ho]
  simp only [resolve, invoke, builtin, Sem.run_bind, Sem.run_pure, Result.andThen_ok, List.map_toArray, List.map_cons, List.map_nil, hrun]
  exact hpost
end
end Go.Proofs.Ytafcbipmmjegcaa.Vm
