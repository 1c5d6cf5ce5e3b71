/- Texts of this claim: Sort, SrtC, AcS, AcF, Acc2. -/
import Derived.Shelf.SlSortCmp.WholeK
import Derived.Test.YtpjkdcbogjigeaaGreatMg21
import Derived.Test.YtpjkdcbogjigeaaGreatMg15
import Derived.Test.YtpjkdcbogjigeaaGreatMg22
import Derived.Test.YtpjkdcbogjigeaaGreatMg20
import Derived.Lib.Small
import Derived.Lib.Walk
import Derived.Test.YtpjkdcbogjigeaaGreatMg19
namespace Go.Proofs.YtpjkdcbogjigeaaGreat.Vm
open Go Go.RowKit Go.Sort
namespace Srt
theorem flat_get {α β : Type} {enc : α → List β} {k : Nat} (hk : ∀ x, (enc x).length = k) : ∀ (l : List α) (i r : Nat) (h : i < l.length), r < k → (l.flatMap enc)[i * k + r]? = (enc l[i])[r]?
  | [], i, r, h, _ => by simp at h
  | x :: l, 0, r, _, hr => by
    rw [List.flatMap_cons, Nat.zero_mul, Nat.zero_add, List.getElem?_append_left (by rw [hk]; exact hr)]; rfl
  | x :: l, i + 1, r, h, hr => by
    rw [List.flatMap_cons, List.getElem?_append_right (by rw [hk, Nat.add_mul]; omega), hk, show (i + 1) * k + r - k = i * k + r by rw [Nat.add_mul]; omega]
    exact flat_get hk l i r (by simpa using h) hr
theorem flat_len {α β : Type} {enc : α → List β} {k : Nat} (hk : ∀ x, (enc x).length = k) : ∀ l : List α, (l.flatMap enc).length = l.length * k
  | [] => by simp
  | x :: l => by rw [List.flatMap_cons, List.length_append, hk, flat_len hk l, List.length_cons, Nat.add_mul]; omega
theorem flatK_list {α : Type} [Inhabited α] {enc : α → List Value} {k : Nat} (hk : ∀ x, (enc x).length = k) (d : Array α) : Go.Sort.flatK enc k d = (d.toList.flatMap enc).toArray := by
  refine ext_get! (by simp [flat_len hk]) fun t ht => ?_
  have ht' : t < d.size * k := by simpa using ht
  rw [get_flatK _ _ _ t ht']
  have k0 : 0 < k := by
    rcases Nat.eq_zero_or_pos k with h | h
    · subst h; simp at ht'
    · exact h
  have hi : t / k < d.toList.length := by rw [Array.length_toList]; exact Nat.div_lt_of_lt_mul (by rw [Nat.mul_comm]; exact ht')
  have hm : t % k < k := Nat.mod_lt _ k0
  have h1 := flat_get hk d.toList (t / k) (t % k) hi hm
  rw [show t / k * k + t % k = t by rw [Nat.mul_comm]; exact Nat.div_add_mod t k] at h1
  have h2 : (enc d.toList[t / k])[t % k]? = some ((enc d[t / k]!)[t % k]!) := by
    rw [show d[t / k]! = d.toList[t / k] by rw [getElem!_pos d (t / k) (by simpa using hi)]; simp, List.getElem?_eq_getElem (by rw [hk]; exact hm), getElem!_pos _ _ (by rw [hk]; exact hm)]
  rw [h2] at h1
  rw [getElem!_pos _ t (by simpa [flat_len hk] using ht')]
  have h3 := (List.getElem?_eq_some_iff.1 h1).2
  simpa using h3.symm
theorem relL_vals {M : Pm} : ∀ (us : List Value) (R : List T) (xs : List Value), RelL M (us.map T.v ++ R) xs → ∃ xs', xs = us ++ xs' ∧ RelL M R xs'
  | [], R, xs, h => ⟨xs, rfl, h⟩
  | u :: us, R, xs, h => by
    simp only [List.map_cons, List.cons_append, RelL, Rel] at h
    obtain ⟨v, vs, rfl, rfl, h⟩ := h
    obtain ⟨xs', e, h'⟩ := relL_vals us R vs h
    exact ⟨xs', by rw [e]; rfl, h'⟩
theorem relL_vals' {M : Pm} : ∀ (us : List Value) (R : List T) (xs : List Value), RelL M R xs → RelL M (us.map T.v ++ R) (us ++ xs)
  | [], R, xs, h => h
  | u :: us, R, xs, h => by
    simp only [List.map_cons, List.cons_append, RelL, Rel]
    exact ⟨u, us ++ xs, rfl, rfl, relL_vals' us R xs h⟩
theorem heap_put (w : World) (b : Nat) (F C : Array Value) (t : TypeId) (fz : Nat × Nat) (h : w.heap[b]? = some (.cells C t fz)) : (putRow id w b 0 F).heap[b]? = some (.cells (putCells id 0 F C) t fz) := by
  unfold putRow mapBlock
  simp only [Array.getElem?_modify, if_true, h, Option.map_some, onCells]
theorem heap_put_ne (w : World) (b j : Nat) (F : Array Value) (hj : j ≠ b) : (putRow id w b 0 F).heap[j]? = w.heap[j]? := by
  unfold putRow mapBlock
  simp only [Array.getElem?_modify, if_neg (Ne.symm hj)]
theorem put_list (us us' xs : List Value) (hl : us'.length = us.length) : (putCells id 0 us'.toArray (us ++ xs).toArray).toList = us' ++ xs := by
  refine List.ext_getElem? fun i => ?_
  unfold putCells
  rw [Array.getElem?_toList, Array.getElem?_mapIdx]
  simp only [List.size_toArray, List.getElem?_toArray, Nat.zero_add, Nat.sub_zero, Nat.zero_le, true_and, id]
  by_cases h : i < us'.length
  · rw [List.getElem?_append_left (by omega), List.getElem?_append_left h, List.getElem?_eq_getElem (by omega), Option.map_some, if_pos h, List.getElem?_eq_getElem h, getElem!_pos us'.toArray i (by simpa using h)]
    simp
  · rw [List.getElem?_append_right (by omega), List.getElem?_append_right (by omega), hl]
    cases xs[i - us.length]? with
    | none => rfl
    | some v => simp only [Option.map_some]; rw [if_neg (by omega)]
section
variable {α : Type} [Inhabited α] {P : Program}
theorem sort_T {f g : FuncId} {C : α → List T} {enc : α → List Value} {k : Nat} (hC : ∀ x, C x = (enc x).map T.v) (hk : ∀ x, (enc x).length = k) (lt : α → α → Bool) (can : CanCall P f)
    (H : ∀ (w : World) (blk cap : Nat) (d : Array α), d.size < 4611686018427387904 → HoldsK enc k w blk 0 d → blk < w.heap.size → Calls P f #[.slice (some ⟨blk, 0, none⟩) d.size cap, .func (.func g) #[] #[]] w fun e w' => e = .returned (.tuple #[]) ∧ ∃ d' n os, PermIn 0 d.size d d' ∧ SortedIn lt 0 d.size d' ∧ w' = sortWorldK enc k w blk 0 n d' os)
    (b n cap : Nat) (l : List α) (R : List T) (hn : n = l.length) (hsz : l.length < 4611686018427387904) (Q : T → Obs → Glb → Prop)
    (hQ : ∀ l' : List α, l'.Perm l → (∀ i j (hi : i < l'.length) (hj : j < l'.length), i < j → lt l'[j] l'[i] = false) → Q (.tup []) [(b, .cells (Row.flat C l' ++ R))] none_) :
    TCalls P f [.sa 0 b 0 n cap, .fn g []] [(b, .cells (Row.flat C l ++ R))] none_ Q := ⟨can, fun M w xs hp hx => by
  have hfl : ∀ l : List α, Row.flat C l = (l.flatMap enc).map T.v := fun l => by
    unfold Row.flat
    rw [List.map_flatMap]
    congr 1
    funext x
    exact hC x
  simp only [RelL, Rel] at hx
  obtain ⟨v, us, e, ⟨rfl, _, _⟩, v2, us2, rfl, ⟨ys, rfl, hys⟩, rfl⟩ := hx
  obtain rfl : ys = #[] := by cases ys; simp at hys; exact congrArg _ hys
  have e2 : xs = #[.slice (some ⟨b, 0, none⟩) n cap, .func (.func g) #[] #[]] := Array.toList_inj.1 e
  subst e2 hn
  obtain ⟨A, t, hh, hA, hM⟩ := hp.objs 0 _ rfl
  rw [hfl] at hA
  obtain ⟨xs', eA, hR⟩ := relL_vals _ _ _ hA
  have hAa : A = (l.flatMap enc ++ xs').toArray := by rw [← eA]
  have hlt := hh.lt
  obtain ⟨fz, hw, hfz⟩ := hh
  have hold : HoldsK enc k w b 0 l.toArray := by
    intro j hj
    rw [flatK_list hk] at hj ⊢
    simp only [List.size_toArray] at hj
    have hjA : j < A.size := by rw [hAa, List.size_toArray, List.length_append]; omega
    refine ⟨?_, ?_⟩
    · rw [Nat.zero_add, cell_of_row _ _ _ _ _ _ hw, hAa, List.getElem?_toArray, List.getElem?_append_left hj, List.getElem?_eq_getElem hj, getElem!_pos (l.flatMap enc).toArray j (by simpa using hj)]
      simp
    · unfold World.frozen?
      simp only [Nat.zero_add, hw]
      rcases hfz with rfl | hfz
      · simp
      · simp; omega
  have hc := H w b cap l.toArray (by rw [List.size_toArray]; exact hsz) hold hlt
  rw [List.size_toArray] at hc
  refine hc.mono fun e w' ⟨he, d', nn, os, hperm, hsort, hw'⟩ => ?_
  obtain ⟨hs, _, hpm⟩ := hperm
  have hs : d'.size = l.length := by simpa using hs
  have hpm' : d'.toList.Perm l := by
    have h1 : d'.extract 0 l.length = d' := by rw [← hs]; simp
    have h2 : l.toArray.extract 0 l.length = l.toArray := by simp
    rw [h1, h2] at hpm
    exact hpm
  have hflen : (d'.toList.flatMap enc).length = (l.flatMap enc).length := by rw [flat_len hk, flat_len hk, Array.length_toList, hs]
  have hb : (putRowK enc k (Go.Sort.ahead w nn) b 0 d').heap[b]? = some (.cells (putCells id 0 (d'.toList.flatMap enc).toArray A) t fz) := by
    unfold putRowK
    rw [flatK_list hk]
    exact heap_put (Go.Sort.ahead w nn) b _ A t fz hw
  have hsz : (putRowK enc k (Go.Sort.ahead w nn) b 0 d').heap.size = w.heap.size := by unfold putRowK; rw [size_putRow]; rfl
  have hin : ∀ j, j < w.heap.size → w'.heap[j]? = (putRowK enc k (Go.Sort.ahead w nn) b 0 d').heap[j]? := fun j hj => by
    rw [hw']
    unfold sortWorldK Go.Sort.grow
    exact Array.getElem?_append_left (by rw [hsz]; exact hj)
  have hoth : ∀ j, j < w.heap.size → j ≠ b → w'.heap[j]? = w.heap[j]? := fun j hj hne => by
    rw [hin j hj]
    unfold putRowK
    exact heap_put_ne (Go.Sort.ahead w nn) b j _ hne
  have hbw : w'.heap[b]? = some (.cells (putCells id 0 (d'.toList.flatMap enc).toArray A) t fz) := by rw [hin b hlt, hb]
  have hCl : (putCells id 0 (d'.toList.flatMap enc).toArray A).toList = d'.toList.flatMap enc ++ xs' := by rw [hAa]; exact put_list _ _ _ hflen
  have hCs : (putCells id 0 (d'.toList.flatMap enc).toArray A).size = A.size := by unfold putCells; simp
  refine ⟨.tuple #[], .tup [], M, [(b, .cells (Row.flat C d'.toList ++ R))], none_, he, by simp only [Rel]; exact ⟨#[], rfl, rfl⟩, ?_, ?_, hQ d'.toList hpm' fun i j hi hj hij => ?_⟩
  · refine ⟨fun b' o u hu => ?_, fun i x hx => ?_, fun i j x y c hx hy _ _ => ?_, (fun _ _ h => by cases h), fun _ _ _ _ _ => rfl⟩
    · have hne : b' ≠ b := fun e => by rw [e, hM] at hu; cases hu
      have h1 := hp.promise b' o u hu
      have hlt' := World.block_lt_of_cell? w _ h1.1
      exact ⟨(cell_of_heap (hoth b' hlt' hne) o).trans h1.1, h1.2⟩
    · cases i with
      | zero =>
        simp only [List.getElem?_cons_zero, Option.some.injEq] at hx
        subst hx
        refine ⟨_, t, ⟨fz, hbw, ?_⟩, ?_, hM⟩
        · rw [hCs]; exact hfz
        · rw [hCl, hfl]; exact relL_vals' _ _ _ hR
      | succ i => simp at hx
    · cases i with
      | zero => cases j with
        | zero => rfl
        | succ j => simp at hy
      | succ i => simp at hx
  · refine ⟨Pm.le_refl _, fun _ _ _ hv => .inl hv, ⟨?_, ?_, ?_, ?_, fun j hj hd => hoth j hj fun e => hd (.inl ⟨0, _, rfl, by rw [e]; rfl⟩)⟩, fun c hc => .inl ?_⟩
    · rw [hw']; rfl
    · rw [hw']; rfl
    · rw [hw']; rfl
    · rw [hw']
      unfold sortWorldK Go.Sort.grow
      rw [Array.size_append, hsz]
      exact Nat.le_add_right _ _
    · rcases hc with ⟨i, x, h1, h2⟩ | h1
      · cases i with
        | zero =>
          simp only [List.getElem?_cons_zero, Option.some.injEq] at h1
          subst h1
          exact .inl ⟨0, _, rfl, h2⟩
        | succ i => simp at h1
      · exact absurd h1 (by simp [none_])
  · have := hsort i j (Nat.zero_le _) hij (by rw [← hs]; simpa using hj)
    rw [getElem!_pos d' j (by simpa using hj), getElem!_pos d' i (by simpa using hi)] at this
    simpa using this⟩
end
end Srt
end Go.Proofs.YtpjkdcbogjigeaaGreat.Vm
namespace Go.Proofs.YtpjkdcbogjigeaaGreat.Srt
open Go Go.Shelf Go.Lib Go.Proofs Go.Sort
theorem isNaN_any (x : Int) (w : World) : Calls Tryz.prog 165 #[.int .u32 x] w fun e w' => e = .returned (.bool false) ∧ w' = w := by
  go_enter Tryz.func165, Tryz.ntmps165
  go_wp2
  go_ret
  exact ⟨by simp, rfl⟩
set_option maxHeartbeats 1000000 in
theorem compare_any (x y : Int) (w : World) : Calls Tryz.prog 151 #[.int .u32 x, .int .u32 y] w fun e w' => e = .returned (.int .i64 (Go.Lib.compareInt x y)) ∧ w' = w := by
  go_enter Tryz.func151, Tryz.ntmps151
  go_wp2_with (go_at_call 165; refine (isNaN_any _ _).mono ?_; rintro e w' ⟨rfl, hw⟩; rw [hw])
  all_goals (go_ret; refine ⟨?_, rfl⟩; unfold Go.Lib.compareInt; (repeat' split) <;> first | rfl | (exfalso; omega))
instance : Inhabited Acp.En := ⟨⟨0, 0, 0, 0, 0, 0, 0, 0⟩⟩
def encE (y : Acp.En) : List Value := [.int .u32 y.slot, .int .u32 y.n, .int .u8 y.b, .int .u8 y.kind, .int .u8 y.node, .int .u8 y.life, .int .u32 y.ep, .int .u32 y.rq]
def cfE (x y : Acp.En) : Int := Go.Lib.compareInt x.slot y.slot
set_option maxHeartbeats 1000000 in
theorem closure_any (x y : Acp.En) (W : World) : Calls Tryz.prog 150 #[.agg (encE x).toArray, .agg (encE y).toArray] W fun e w' => e = .returned (.int .i64 (cfE x y)) ∧ ∃ q os', w' = Go.Sort.grow (W.drewN q) os' := by
  have hcon := fun W' => compare_any (x.slot : Int) (y.slot : Int) W'
  unfold cfE
  generalize Go.Lib.compareInt (x.slot : Int) (y.slot : Int) = r at hcon ⊢
  unfold encE
  go_enter Tryz.func150, Tryz.ntmps150
  go_wp2_with (go_at_call 151; refine (hcon _).mono ?_; rintro e w' ⟨rfl, rfl⟩)
  go_ret
  exact ⟨rfl, 0, _, by rw [alloc_eq_grow, alloc_eq_grow, grow_grow]; rfl⟩
theorem ltE (x y : Acp.En) : ltOf cfE x y = decide (x.slot < y.slot) := by
  unfold ltOf cfE Go.Lib.compareInt
  by_cases h1 : (x.slot : Int) < y.slot
  · have : x.slot < y.slot := by omega
    simp [h1, this]
  · have h3 : ¬ x.slot < y.slot := by omega
    by_cases h2 : (y.slot : Int) < x.slot <;> simp [h1, h2, h3]
theorem swoE : SWO (ltOf cfE) where
  irrefl x := by rw [ltE]; simp
  trans x y z h1 h2 := by rw [ltE] at *; simp at *; omega
  ntrans x y z h1 h2 := by rw [ltE] at *; simp at *; omega
set_option maxHeartbeats 1000000 in
theorem sort_calls (w : World) (blk cap : Nat) (d : Array Acp.En) (hd : d.size < 4611686018427387904) (hH : HoldsK encE 8 w blk 0 d) (hblk : blk < w.heap.size) :
    Calls Tryz.prog 149 #[.slice (some ⟨blk, 0, none⟩) d.size cap, .func (.func 150) #[] #[]] w fun e w' =>
      e = .returned (.tuple #[]) ∧ ∃ d' n os, PermIn 0 d.size d d' ∧ SortedIn (ltOf cfE) 0 d.size d' ∧ w' = sortWorldK encE 8 w blk 0 n d' os := by
  have eg : ∀ args w, (callFunc 150 args).run Tryz.prog w = .ok (.enter 150 args) w := enters_of Tryz.func150 (by kernel_rfl) rfl
  exact AnyQ.slices_SortFunc lays 8 Tryz.isAgg130 Tryz.sizeOf130 encE (fun _ => rfl) (fun x v hv => by simp only [encE, List.mem_cons, List.not_mem_nil, or_false] at hv; rcases hv with rfl | rfl | rfl | rfl | rfl | rfl | rfl | rfl <;> rfl) cfE swoE 150 #[] blk 0 cap d w eg
    (fun m os dk _ x y => closure_any x y _) hH hblk hd
end Go.Proofs.YtpjkdcbogjigeaaGreat.Srt
namespace Go.Proofs.YtpjkdcbogjigeaaGreat.Vm
open Go Go.RowKit Go.Sort
namespace X11
open Acp (En)
theorem sort_any (b n cap : Nat) (l : List En) (R : List T) (hn : n = l.length) (hl : l.length ≤ 1000000) (Q : T → Obs → Glb → Prop)
    (hQ : ∀ l' : List En, l'.Perm l → l'.Pairwise (fun a b => a.slot ≤ b.slot) → Q (.tup []) [(b, .cells (Row.flat enC l' ++ R))] none_) :
    TCalls Tryz.prog 149 [.sa 0 b 0 n cap, .fn 150 []] [(b, .cells (Row.flat enC l ++ R))] none_ Q :=
  Srt.sort_T (enc := Go.Proofs.YtpjkdcbogjigeaaGreat.Srt.encE) (k := 8) (fun _ => rfl) (fun _ => rfl) (ltOf Go.Proofs.YtpjkdcbogjigeaaGreat.Srt.cfE) (CanCall.of Tryz.func149 rfl (by decide))
    (fun w blk cap d hd hH hb => Go.Proofs.YtpjkdcbogjigeaaGreat.Srt.sort_calls w blk cap d hd hH hb) b n cap l R hn (by omega) Q fun l' hp hs => hQ l' hp (List.pairwise_iff_getElem.2 fun i j hi hj hij => by
      have := hs i j hi hj hij
      rw [Go.Proofs.YtpjkdcbogjigeaaGreat.Srt.ltE, decide_eq_false_iff_not] at this
      omega)
end X11
end Go.Proofs.YtpjkdcbogjigeaaGreat.Vm
namespace Go.Proofs.YtpjkdcbogjigeaaGreat.Vm
open Go Go.RowKit
set_option maxRecDepth 100000
namespace X11
theorem len64_0 (Q : T → Obs → Glb → Prop) (hQ : Q (int 0) [] none_) : TCalls Tryz.prog 181 [.v (.int .u64 0)] [] none_ Q := by
  refine TCalls.of Tryz.func181 rfl (CanCall.of Tryz.func181 rfl (by decide)) [] fun Γ => ?_
  let HH : Nat → Nat → Hint := fun _ _ => .no
  exact run_sound ⟨HH, [], fun _ => none⟩ 400 (by kernel_rfl) (Ya ((show (0 : Int) ≤ IntKind.u8.wrap 0 from by decide)) hQ)
theorem len_0 (Q : T → Obs → Glb → Prop) (hQ : Q (int 0) [] none_) : TCalls Tryz.prog 164 [.v (.int .u64 0)] [] none_ Q := by
  have hl := fun Q' hq => len64_0 Q' hq
  refine TCalls.of Tryz.func164 rfl (CanCall.of Tryz.func164 rfl (by decide)) [] fun Γ => ?_
  let HH : Nat → Nat → Hint := fun | 2, 1 => told (int 0) [] [] | _, _ => .no
  exact run_sound ⟨HH, [], fun  | _ => none⟩ 400 (by kernel_rfl) (Ya (hl (HH 2 1).P (told_post rfl)) (Yu hQ))
theorem ins_0 (Q : T → Obs → Glb → Prop) (hQ : Q (.tup []) [] none_) : TCalls Tryz.prog 172 [.v nilS, int 0, int 0, .fn 150 []] [] none_ Q := by
  refine TCalls.of Tryz.func172 rfl (CanCall.of Tryz.func172 rfl (by decide)) [] fun Γ => ?_
  let HH : Nat → Nat → Hint := fun  | _, _ => .no
  exact run_sound ⟨HH, [], fun | 4 => some ⟨[], [14], .take true [0,1,2,3,4,5,6,7,8,9,10,11,12,13] (.one 14 (.take false [15,16] .done))⟩ | 6 => some ⟨[], [15,17], .take true [0,1,5,6,7,8,9,10,11,12,13,14] (.take false [2,3,4] (.one 15 (.take false [16] (.one 17 .done))))⟩ | _ => none⟩ 400 (by kernel_rfl) hQ
theorem pdq_0 (Q : T → Obs → Glb → Prop) (hQ : Q (.tup []) [] none_) : TCalls Tryz.prog 163 [.v nilS, int 0, int 0, int 0, .fn 150 []] [] none_ Q := by
  have hi := fun Q' hq => ins_0 Q' hq
  refine TCalls.of Tryz.func163 rfl (CanCall.of Tryz.func163 rfl (by decide)) [] fun Γ => ?_
  let HH : Nat → Nat → Hint := fun | 4, 4 => told (.tup []) [] [] | _, _ => .no
  exact run_sound ⟨HH, [], fun | 17 => some ⟨[], [13], .take true [0,1,2,3,4,5,6,7,8,9,10,11,12] (.one 13 (.take false [14,15,16] .done))⟩ | _ => none⟩ 400 (by kernel_rfl) (Ya (hi (HH 4 4).P (told_post rfl)) (Yu hQ))
theorem sort_nil (Q : T → Obs → Glb → Prop) (hQ : Q (.tup []) [] none_) : TCalls Tryz.prog 149 [.v nilS, .fn 150 []] [] none_ Q := by
  have hl := fun Q' hq => len_0 Q' hq
  have hp := fun Q' hq => pdq_0 Q' hq
  refine TCalls.of Tryz.func149 rfl (CanCall.of Tryz.func149 rfl (by decide)) [] fun Γ => ?_
  let HH : Nat → Nat → Hint := fun | 1, 4 => told (int 0) [] [] | 1, 6 => told (.tup []) [] [] | _, _ => .no
  exact run_sound ⟨HH, [], fun  | _ => none⟩ 400 (by kernel_rfl) (Ya (hl (HH 1 4).P (told_post rfl)) (Yu (Ya (hp (HH 1 6).P (told_post rfl)) (Yu hQ))))
end X11
end Go.Proofs.YtpjkdcbogjigeaaGreat.Vm
namespace Go.Proofs.YtpjkdcbogjigeaaGreat.Vm
open Go Go.RowKit
set_option maxRecDepth 100000
noncomputable abbrev kAcF0 (l : List Nat) : It := .code (sub (bd Tryz.f124) l)
noncomputable abbrev wAcF1 (Γ : Ctx) (Q : T → Obs → Glb → Prop) : List It → S → Prop := TWk Tryz.prog Γ (fin Tryz.prog Tryz.f124 [0, 1, 2, 3, 4] Q)
namespace X11
open Acp (En AS Rc blw VOk IsE XOk)
open View (VS Mem)
open X5 (viewC mems memC)
open Jrn (Dk)
open X9 (dkC)
open X10 (strs jC)
theorem sa_re {i j b o n cap : Nat} (M : Pm) (v : Value) (h : Rel M (.sa i b o n cap) v) : Rel M (.sa j b o n cap) v := by simp only [Rel] at h ⊢; exact h
theorem Imp.slotE {ts ts2 : List T} {ob : Obs} {gl : Glb} {j : Nat} {t t' : T} (hj : ts[j]? = some t) (h : ∀ M v, Rel M t v → Rel M t' v) (e : ts.set j t' = ts2) : Imp ts ob gl ts2 ob gl := e ▸ Imp.slotR hj h
theorem enC_len (y : En) : (enC y).length = 8 := rfl
theorem enC_one (y : En) : (enC y).all T.one = true := rfl
section
variable (db jb ab mb : Nat) (d : Dk) (l : List (List UInt8)) (hd : Value) (dead : Bool) (x : AS) (es : Array MapEntry) (ck : Nat) (Γ : Ctx) (frm ib : Nat) (Q : T → Obs → Glb → Prop)
theorem en_nextN (left : List Int) (cur : Option Int) (hne : left ≠ [])
    (nx : ∀ y t, y ∈ left → enF x.E y = some t → wAcF1 Γ Q [kAcF0 [1,1,1,0,1,0,0,1,1,0], .blk 1, kAcF0 [1,1,1,0,1,0], .blk 0, kAcF0 [1,1,1,1]] ⟨frame 31 [(1, u32 frm), (5, .v nilS), (15, .ptr 5 ib 0)], obsA db jb ab mb d l hd dead x es ck ++ [(ib, .iter 4 mb .u32 es ck (left.erase y) (some y))], none_⟩) :
    wAcF1 Γ Q [kAcF0 [1,1,1,0,1,0], .blk 0, kAcF0 [1,1,1,1]] ⟨frame 31 [(1, u32 frm), (5, .v nilS), (15, .ptr 5 ib 0)], obsA db jb ab mb d l hd dead x es ck ++ [(ib, .iter 4 mb .u32 es ck left cur)], none_⟩ := by
  let HH : Nat → Nat → Hint := fun _ _ => .no
  exact run_sound ⟨HH, [((0, 6), ([1,5,15], 6)), ((0, 9), ([5], 6))], fun _ => none⟩ 400 (by kernel_rfl) (Ya (Yb ib (Yb mb (Yb es (Ye ck)))) (Ya (fun (Z0 : left = []) => (show wAcF1 Γ Q [kAcF0 [1,1,1,1]] (S.mk (frame 31 [(5, T.v (Value.slice none 0 0))]) [(db, Ob.cells [T.v (Value.string (ByteArray.mk (List.toArray d.b))), int d.n, bool d.off]), (jb, Ob.cells [T.ptr 0 db 0, T.slx 1 2 (strs l) hd, bool dead]), (0, Ob.room 1 9 (List.length (strs l)) hd), (ab, Ob.cells [T.ptr 1 jb 0, u32 x.pn, u8 x.pb, u32 x.low, u32 x.v.e, T.sl 3 (mems x.v.ms), u8 (x.v.L 0), u8 (x.v.L 1), u8 (x.v.L 2), u8 (x.v.L 3), u8 (x.v.L 4), u8 (x.v.L 5), u8 (x.v.L 6), u8 (x.v.L 7), T.mp 4 mb]), (mb, Ob.map IntKind.u32 (enF x.E) es ck), (ib, Ob.iter 4 mb IntKind.u32 es ck left cur)] fun x => none) by exfalso; exact hne Z0)) (fun (Z1 : Int) => (fun (Z2 : T) => (fun (Z3 : Z1 ∈ left) => (fun (Z4 : enF x.E Z1 = some Z2) => (nx Z1 Z2 Z3 Z4)))))))
theorem en_nextS (g n cap : Nat) (cs : List T) (left : List Int) (cur : Option Int) (hne : left ≠ [])
    (nx : ∀ y t, y ∈ left → enF x.E y = some t → wAcF1 Γ Q [kAcF0 [1,1,1,0,1,0,0,1,1,0], .blk 1, kAcF0 [1,1,1,0,1,0], .blk 0, kAcF0 [1,1,1,1]] ⟨frame 31 [(1, u32 frm), (5, .sa 6 g 0 n cap), (15, .ptr 5 ib 0)], obsA db jb ab mb d l hd dead x es ck ++ [(ib, .iter 4 mb .u32 es ck (left.erase y) (some y)), (g, .cells cs)], none_⟩) :
    wAcF1 Γ Q [kAcF0 [1,1,1,0,1,0], .blk 0, kAcF0 [1,1,1,1]] ⟨frame 31 [(1, u32 frm), (5, .sa 6 g 0 n cap), (15, .ptr 5 ib 0)], obsA db jb ab mb d l hd dead x es ck ++ [(ib, .iter 4 mb .u32 es ck left cur), (g, .cells cs)], none_⟩ := by
  let HH : Nat → Nat → Hint := fun _ _ => .no
  exact run_sound ⟨HH, [((0, 6), ([1,5,15], 7)), ((0, 9), ([5], 7))], fun _ => none⟩ 400 (by kernel_rfl) (Ya (Yb ib (Yb mb (Yb es (Ye ck)))) (Ya (fun (Z0 : left = []) => (show wAcF1 Γ Q [kAcF0 [1,1,1,1]] (S.mk (frame 31 [(5, T.sa 6 g 0 n cap)]) [(db, Ob.cells [T.v (Value.string (ByteArray.mk (List.toArray d.b))), int d.n, bool d.off]), (jb, Ob.cells [T.ptr 0 db 0, T.slx 1 2 (strs l) hd, bool dead]), (0, Ob.room 1 9 (List.length (strs l)) hd), (ab, Ob.cells [T.ptr 1 jb 0, u32 x.pn, u8 x.pb, u32 x.low, u32 x.v.e, T.sl 3 (mems x.v.ms), u8 (x.v.L 0), u8 (x.v.L 1), u8 (x.v.L 2), u8 (x.v.L 3), u8 (x.v.L 4), u8 (x.v.L 5), u8 (x.v.L 6), u8 (x.v.L 7), T.mp 4 mb]), (mb, Ob.map IntKind.u32 (enF x.E) es ck), (ib, Ob.iter 4 mb IntKind.u32 es ck left cur), (g, Ob.cells cs)] fun x => none) by exfalso; exact hne Z0)) (fun (Z1 : Int) => (fun (Z2 : T) => (fun (Z3 : Z1 ∈ left) => (fun (Z4 : enF x.E Z1 = some Z2) => (nx Z1 Z2 Z3 Z4)))))))
theorem en_endN (left : List Int) (cur : Option Int) (h0 : left = []) (hs : ∀ Q' : T → Obs → Glb → Prop, Q' (.tup []) [] none_ → TCalls Tryz.prog 149 [.v nilS, .fn 150 []] [] none_ Q') (hQ : Q (.v nilS) (obsA db jb ab mb d l hd dead x es ck) none_) :
    wAcF1 Γ Q [kAcF0 [1,1,1,0,1,0], .blk 0, kAcF0 [1,1,1,1]] ⟨frame 31 [(1, u32 frm), (5, .v nilS), (15, .ptr 5 ib 0)], obsA db jb ab mb d l hd dead x es ck ++ [(ib, .iter 4 mb .u32 es ck left cur)], none_⟩ := by
  let HH : Nat → Nat → Hint := fun | 9, 1 => told (.tup []) [] [] | _, _ => .no
  exact run_sound ⟨HH, [((0, 6), ([1,5,15], 6))], fun  | _ => none⟩ 400 (by kernel_rfl) (Ya (Yb ib (Yb mb (Yb es (Ye ck)))) (Ya (fun (Z0 : left = []) => (Ya (hs (HH 9 1).P (told_post rfl)) (Yu hQ))) (fun (Z1 : Int) => (fun (Z2 : T) => (fun (Z3 : Z1 ∈ left) => (fun (Z4 : enF x.E Z1 = some Z2) => (show wAcF1 Γ Q [kAcF0 [1,1,1,0,1,0,0,1,1,0], It.blk 1, kAcF0 [1,1,1,0,1,0], It.blk 0, kAcF0 [1,1,1,1]] (S.mk (frame 31 [(1, u32 frm), (5, T.v (Value.slice none 0 0)), (15, T.ptr 5 ib 0)]) [(db, Ob.cells [T.v (Value.string (ByteArray.mk (List.toArray d.b))), int d.n, bool d.off]), (jb, Ob.cells [T.ptr 0 db 0, T.slx 1 2 (strs l) hd, bool dead]), (0, Ob.room 1 9 (List.length (strs l)) hd), (ab, Ob.cells [T.ptr 1 jb 0, u32 x.pn, u8 x.pb, u32 x.low, u32 x.v.e, T.sl 3 (mems x.v.ms), u8 (x.v.L 0), u8 (x.v.L 1), u8 (x.v.L 2), u8 (x.v.L 3), u8 (x.v.L 4), u8 (x.v.L 5), u8 (x.v.L 6), u8 (x.v.L 7), T.mp 4 mb]), (mb, Ob.map IntKind.u32 (enF x.E) es ck), (ib, Ob.iter 4 mb IntKind.u32 es ck (List.erase left Z1) (some Z1))] fun x => none) by exfalso; rw [h0] at Z3; simp at Z3; done)))))))
theorem en_endS (g n cap : Nat) (cs : List T) (left : List Int) (cur : Option Int) (h0 : left = []) (cs2 : List T) (hx1 : cs.all noIx = true) (hx2 : cs2.all noIx = true)
    (hs : ∀ Q' : T → Obs → Glb → Prop, Q' (.tup []) [(g, .cells cs2)] none_ → TCalls Tryz.prog 149 [.sa 0 g 0 n cap, .fn 150 []] [(g, .cells cs)] none_ Q')
    (hQ : wAcF1 Γ Q [kAcF0 [1,1,1,1,1]] ⟨frame 31 [(5, .sa 6 g 0 n cap)], obsA db jb ab mb d l hd dead x es ck ++ [(ib, .iter 4 mb .u32 es ck left cur), (g, .cells cs2)], none_⟩) :
    wAcF1 Γ Q [kAcF0 [1,1,1,0,1,0], .blk 0, kAcF0 [1,1,1,1]] ⟨frame 31 [(1, u32 frm), (5, .sa 6 g 0 n cap), (15, .ptr 5 ib 0)], obsA db jb ab mb d l hd dead x es ck ++ [(ib, .iter 4 mb .u32 es ck left cur), (g, .cells cs)], none_⟩ := by
  let HH : Nat → Nat → Hint := fun | 9, 1 => .plainAt [0] (told (.tup []) [6] [(g, .cells cs2)]) | _, _ => .no
  exact run_sound ⟨HH, [((0, 6), ([1,5,15], 7)), ((0, 10), ([5], 7))], fun  | _ => none⟩ 400 (by kernel_rfl) (Ya (Yb ib (Yb mb (Yb es (Ye ck)))) (Ya (fun (Z0 : left = []) => (Ya (Ya hx1 Yt) (Ya (hs (HH 9 1).P (told_post rfl)) (Yu (Ya (Ya hx2 Yt) hQ))))) (fun (Z1 : Int) => (fun (Z2 : T) => (fun (Z3 : Z1 ∈ left) => (fun (Z4 : enF x.E Z1 = some Z2) => (show wAcF1 Γ Q [kAcF0 [1,1,1,0,1,0,0,1,1,0], It.blk 1, kAcF0 [1,1,1,0,1,0], It.blk 0, kAcF0 [1,1,1,1]] (S.mk (frame 31 [(1, u32 frm), (5, T.sa 6 g 0 n cap), (15, T.ptr 5 ib 0)]) [(db, Ob.cells [T.v (Value.string (ByteArray.mk (List.toArray d.b))), int d.n, bool d.off]), (jb, Ob.cells [T.ptr 0 db 0, T.slx 1 2 (strs l) hd, bool dead]), (0, Ob.room 1 9 (List.length (strs l)) hd), (ab, Ob.cells [T.ptr 1 jb 0, u32 x.pn, u8 x.pb, u32 x.low, u32 x.v.e, T.sl 3 (mems x.v.ms), u8 (x.v.L 0), u8 (x.v.L 1), u8 (x.v.L 2), u8 (x.v.L 3), u8 (x.v.L 4), u8 (x.v.L 5), u8 (x.v.L 6), u8 (x.v.L 7), T.mp 4 mb]), (mb, Ob.map IntKind.u32 (enF x.E) es ck), (ib, Ob.iter 4 mb IntKind.u32 es ck (List.erase left Z1) (some Z1)), (g, Ob.cells cs)] fun x => none) by exfalso; rw [h0] at Z3; simp at Z3; done)))))))
theorem en_ret (L : List T) (left : List Int) (cur : Option Int) (hQ : Q (.sl 8 L) (obsA db jb ab mb d l hd dead x es ck) none_) :
    wAcF1 Γ Q [kAcF0 [1,1,1,1,1]] ⟨frame 31 [(5, .sl 8 L)], obsA db jb ab mb d l hd dead x es ck ++ [(ib, .iter 4 mb .u32 es ck left cur), (0, .gone)], none_⟩ := by
  let HH : Nat → Nat → Hint := fun _ _ => .no
  exact run_sound ⟨HH, [], fun _ => none⟩ 400 (by kernel_rfl) hQ
theorem en_bodyN (left : List Int) (y : Int) (c : En) (hc : enF x.E y = some (.agg (enC c)))
    (h1 : (frm : Int) ≤ y → ∀ g cap, 1 ≤ cap → wAcF1 Γ Q [kAcF0 [1,1,1,0,1,0], .blk 0, kAcF0 [1,1,1,1]] ⟨frame 31 [(1, u32 frm), (5, .sa 6 g 0 1 cap), (15, .ptr 5 ib 0)], obsA db jb ab mb d l hd dead x es ck ++ [(ib, .iter 4 mb .u32 es ck left (some y)), (g, .cells (enC c ++ List.replicate ((cap - 1) * 8) .und))], none_⟩)
    (h2 : ¬ (frm : Int) ≤ y → wAcF1 Γ Q [kAcF0 [1,1,1,0,1,0], .blk 0, kAcF0 [1,1,1,1]] ⟨frame 31 [(1, u32 frm), (5, .v nilS), (15, .ptr 5 ib 0)], obsA db jb ab mb d l hd dead x es ck ++ [(ib, .iter 4 mb .u32 es ck left (some y))], none_⟩) :
    wAcF1 Γ Q [kAcF0 [1,1,1,0,1,0,0,1,1,0], .blk 1, kAcF0 [1,1,1,0,1,0], .blk 0, kAcF0 [1,1,1,1]] ⟨frame 31 [(1, u32 frm), (5, .v nilS), (15, .ptr 5 ib 0)], obsA db jb ab mb d l hd dead x es ck ++ [(ib, .iter 4 mb .u32 es ck left (some y))], none_⟩ := by
  have k1 := fun (hy : (frm : Int) ≤ y) (bt g cap : Nat) (hcap : 1 ≤ cap) => TWk.imp (s := ⟨frame 31 [(1, u32 frm), (5, .sa 7 g 0 1 cap), (15, .ptr 5 ib 0)], obsA db jb ab mb d l hd dead x es ck ++ [(ib, .iter 4 mb .u32 es ck left (some y)), (bt, .cells (enC c)), (g, .cells (enC c ++ List.replicate ((cap - 1) * 8) .und))], none_⟩) (h1 hy g cap hcap)
    ((Imp.sel (ob' := obsA db jb ab mb d l hd dead x es ck ++ [(ib, .iter 4 mb .u32 es ck left (some y)), (g, .cells (enC c ++ List.replicate ((cap - 1) * 8) .und))]) [0,1,2,3,4,5,7] (by decide) rfl).trans (Imp.slotE (j := 5) (t := .sa 7 g 0 1 cap) (t' := .sa 6 g 0 1 cap) rfl sa_re rfl))
  have k2 := fun (hy : ¬ (frm : Int) ≤ y) (bt : Nat) => TWk.imp (s := ⟨frame 31 [(1, u32 frm), (5, .v nilS), (15, .ptr 5 ib 0)], obsA db jb ab mb d l hd dead x es ck ++ [(ib, .iter 4 mb .u32 es ck left (some y)), (bt, .cells (enC c))], none_⟩) (h2 hy) (Imp.take 6)
  clear h1 h2
  let HH : Nat → Nat → Hint := fun | 6, 0 => .res (.agg (enC c)) | 8, 3 => .glob | _, _ => .no
  exact run_sound ⟨HH, [((2, 5), ([1,5,15], 8))], fun  | _ => none⟩ 400 (by kernel_rfl) (Ya (Yb ib (Yb mb (Yb es (Ye ck)))) (Ya hc (fun (Z0 : Nat) => (Yk 8 Z0 (Ys (decide (y ≥ (↑frm : Int))) (fun Z1 => (Yb Z0 (Ya (fun (Z2 : 1 = 0) => (show wAcF1 Γ Q [kAcF0 [1,1,1,0,1,0], It.blk 0, kAcF0 [1,1,1,1]] (S.mk (frame 31 [(1, u32 frm), (5, T.v (Value.slice none 0 0)), (15, T.ptr 5 ib 0)]) [(db, Ob.cells [T.v (Value.string (ByteArray.mk (List.toArray d.b))), int d.n, bool d.off]), (jb, Ob.cells [T.ptr 0 db 0, T.slx 1 2 (strs l) hd, bool dead]), (0, Ob.room 1 9 (List.length (strs l)) hd), (ab, Ob.cells [T.ptr 1 jb 0, u32 x.pn, u8 x.pb, u32 x.low, u32 x.v.e, T.sl 3 (mems x.v.ms), u8 (x.v.L 0), u8 (x.v.L 1), u8 (x.v.L 2), u8 (x.v.L 3), u8 (x.v.L 4), u8 (x.v.L 5), u8 (x.v.L 6), u8 (x.v.L 7), T.mp 4 mb]), (mb, Ob.map IntKind.u32 (enF x.E) es ck), (ib, Ob.iter 4 mb IntKind.u32 es ck left (some y)), (Z0, Ob.cells [u32 c.slot, u32 c.n, u8 c.b, u8 c.kind, u8 c.node, u8 c.life, u32 c.ep, u32 c.rq])] fun x => none) by omega)) (fun (Z3 : 1 ≠ 0) => (Ya (Ya (Yn (24) (140737488355328) rfl) (Yn (1) (9223372036854775807) rfl)) (fun (Z4 : Nat) => (fun (Z5 : Nat) => (fun (Z6 : 1 ≤ Z5) => (fun (Z7 : Z5 ≤ 9223372036854775807) => (k1 (of_decide_eq_true Z1) Z0 Z4 Z5 Z6)))))))))) (fun Z8 => (k2 (of_decide_eq_false Z8) Z0)))))))
theorem en_bodyS (g n cap : Nat) (cs cs2 cs3 : List T) (left : List Int) (y : Int) (c : En) (hc : enF x.E y = some (.agg (enC c))) (hn : n ≤ 100)
    (hlen : n + 1 ≤ cap → 0 + n * 8 + 1 * 8 ≤ cs.length) (hset : setCells cs (0 + n * 8) (enC c) = cs2) (hlen2 : 0 + n * 8 ≤ cs.length) (hone : ((cs.drop 0).take (n * 8)).all T.one = true) (hcp : (cs.drop 0).take (n * 8) ++ enC c = cs3)
    (h1 : (frm : Int) ≤ y → n + 1 ≤ cap → wAcF1 Γ Q [kAcF0 [1,1,1,0,1,0], .blk 0, kAcF0 [1,1,1,1]] ⟨frame 31 [(1, u32 frm), (5, .sa 6 g 0 (n + 1) cap), (15, .ptr 5 ib 0)], obsA db jb ab mb d l hd dead x es ck ++ [(ib, .iter 4 mb .u32 es ck left (some y)), (g, .cells cs2)], none_⟩)
    (h3 : (frm : Int) ≤ y → ∀ g cap, n + 1 ≤ cap → wAcF1 Γ Q [kAcF0 [1,1,1,0,1,0], .blk 0, kAcF0 [1,1,1,1]] ⟨frame 31 [(1, u32 frm), (5, .sa 6 g 0 (n + 1) cap), (15, .ptr 5 ib 0)], obsA db jb ab mb d l hd dead x es ck ++ [(ib, .iter 4 mb .u32 es ck left (some y)), (g, .cells (cs3 ++ List.replicate ((cap - (n + 1)) * 8) .und))], none_⟩)
    (h2 : ¬ (frm : Int) ≤ y → wAcF1 Γ Q [kAcF0 [1,1,1,0,1,0], .blk 0, kAcF0 [1,1,1,1]] ⟨frame 31 [(1, u32 frm), (5, .sa 6 g 0 n cap), (15, .ptr 5 ib 0)], obsA db jb ab mb d l hd dead x es ck ++ [(ib, .iter 4 mb .u32 es ck left (some y)), (g, .cells cs)], none_⟩) :
    wAcF1 Γ Q [kAcF0 [1,1,1,0,1,0,0,1,1,0], .blk 1, kAcF0 [1,1,1,0,1,0], .blk 0, kAcF0 [1,1,1,1]] ⟨frame 31 [(1, u32 frm), (5, .sa 6 g 0 n cap), (15, .ptr 5 ib 0)], obsA db jb ab mb d l hd dead x es ck ++ [(ib, .iter 4 mb .u32 es ck left (some y)), (g, .cells cs)], none_⟩ := by
  have k1 := fun (hy : (frm : Int) ≤ y) (hcap : n + 1 ≤ cap) (bt : Nat) => TWk.imp (s := ⟨frame 31 [(1, u32 frm), (5, .sa 6 g 0 (n + 1) cap), (15, .ptr 5 ib 0)], obsA db jb ab mb d l hd dead x es ck ++ [(ib, .iter 4 mb .u32 es ck left (some y)), (g, .cells cs2), (bt, .cells (enC c))], none_⟩) (h1 hy hcap) (Imp.take 7)
  have k3 := fun (hy : (frm : Int) ≤ y) (bt g2 cap2 : Nat) (hcap : n + 1 ≤ cap2) => TWk.imp (s := ⟨frame 31 [(1, u32 frm), (5, .sa 8 g2 0 (n + 1) cap2), (15, .ptr 5 ib 0)], obsA db jb ab mb d l hd dead x es ck ++ [(ib, .iter 4 mb .u32 es ck left (some y)), (g, .cells cs), (bt, .cells (enC c)), (g2, .cells (((cs.drop 0).take (n * 8) ++ enC c) ++ List.replicate ((cap2 - (n + 1)) * 8) .und))], none_⟩)
    (by rw [← hcp] at h3; exact h3 hy g2 cap2 hcap)
    ((Imp.sel (ob' := obsA db jb ab mb d l hd dead x es ck ++ [(ib, .iter 4 mb .u32 es ck left (some y)), (g2, .cells (((cs.drop 0).take (n * 8) ++ enC c) ++ List.replicate ((cap2 - (n + 1)) * 8) .und))]) [0,1,2,3,4,5,8] (by decide) rfl).trans (Imp.slotE (j := 5) (t := .sa 8 g2 0 (n + 1) cap2) (t' := .sa 6 g2 0 (n + 1) cap2) rfl sa_re rfl))
  have k2 := fun (hy : ¬ (frm : Int) ≤ y) (bt : Nat) => TWk.imp (s := ⟨frame 31 [(1, u32 frm), (5, .sa 6 g 0 n cap), (15, .ptr 5 ib 0)], obsA db jb ab mb d l hd dead x es ck ++ [(ib, .iter 4 mb .u32 es ck left (some y)), (g, .cells cs), (bt, .cells (enC c))], none_⟩) (h2 hy) (Imp.take 7)
  clear h1 h2 h3
  let HH : Nat → Nat → Hint := fun | 6, 0 => .res (.agg (enC c)) | 8, 3 => .obj cs2 | _, _ => .no
  exact run_sound ⟨HH, [((2, 5), ([1,5,15], 9))], fun  | _ => none⟩ 400 (by kernel_rfl) (Ya (Yb ib (Yb mb (Yb es (Ye ck)))) (Ya hc (fun (Z0 : Nat) => (Yk 8 Z0 (Ys (decide (y ≥ (↑frm : Int))) (fun Z1 => (Yb Z0 (Yb g (Ya (fun (Z2 : n + 1 ≤ cap) => (Ya (hlen Z2) (Ya ((kdef hset)) (k1 (of_decide_eq_true Z1) Z2 Z0)))) (fun (Z3 : cap < n + 1) => (Ya (Ya (show 0 + n * nat_lit 8 ≤ List.length cs by omega) hone) (Ya (Ya (show (n + 1) * nat_lit 24 ≤ 140737488355328 by simp only [maxLen]; omega) (show n + 1 ≤ maxLen by simp only [maxLen]; omega)) (fun (Z4 : Nat) => (fun (Z5 : Nat) => (fun (Z6 : n + 1 ≤ Z5) => (fun (Z7 : Z5 ≤ 9223372036854775807) => (k3 (of_decide_eq_true Z1) Z0 Z4 Z5 Z6)))))))))))) (fun Z8 => (k2 (of_decide_eq_false Z8) Z0)))))))
end
end X11
end Go.Proofs.YtpjkdcbogjigeaaGreat.Vm
namespace Go.Proofs.YtpjkdcbogjigeaaGreat
namespace Acp
theorem len_sub {α : Type} [DecidableEq α] : ∀ {l m : List α}, l.Nodup → (∀ x ∈ l, x ∈ m) → l.length ≤ m.length
  | [], _, _, _ => Nat.zero_le _
  | a :: l, m, h, hs => by
    obtain ⟨h1, h2⟩ := List.nodup_cons.1 h
    have ha := hs a (List.mem_cons_self ..)
    have := len_sub (l := l) (m := m.erase a) h2 fun x hx => (List.mem_erase_of_ne (fun e => by subst e; exact h1 hx)).2 (hs x (List.mem_cons_of_mem _ hx))
    rw [List.length_erase_of_mem ha] at this
    have := List.length_pos_of_mem ha
    rw [List.length_cons]
    omega
structure Inv (E : Nat → Option En) (frm : Nat) (l : List En) (left : List Int) : Prop where
  nd : (l.map En.slot).Nodup
  m : ∀ y ∈ l, E y.slot = some y ∧ frm ≤ y.slot ∧ (y.slot : Int) ∉ left
  c : ∀ y : En, E y.slot = some y → frm ≤ y.slot → y ∈ l ∨ (y.slot : Int) ∈ left
  lnd : left.Nodup
theorem Inv.put {E : Nat → Option En} {frm : Nat} {l : List En} {left : List Int} (h : Inv E frm l left) (c : En) (hc : E c.slot = some c) (hm : (c.slot : Int) ∈ left) (hf : frm ≤ c.slot) : Inv E frm (l ++ [c]) (left.erase (c.slot : Int)) := by
  refine ⟨?_, fun y hy => ?_, fun y h1 h2 => ?_, h.lnd.erase _⟩
  · rw [List.map_append, List.nodup_append]
    refine ⟨h.nd, by simp, fun a ha b hb e => ?_⟩
    simp only [List.map_cons, List.map_nil, List.mem_singleton] at hb
    subst hb
    obtain ⟨y, hy, rfl⟩ := List.mem_map.1 ha
    exact (h.m y hy).2.2 (e ▸ hm)
  · rcases List.mem_append.1 hy with h1 | h1
    · obtain ⟨a, b, d⟩ := h.m y h1
      exact ⟨a, b, fun e => d (List.mem_of_mem_erase e)⟩
    · obtain rfl := List.mem_singleton.1 h1
      exact ⟨hc, hf, h.lnd.not_mem_erase⟩
  · by_cases e : y.slot = c.slot
    · rw [e, hc] at h1
      injection h1 with h1
      subst h1
      exact .inl (List.mem_append_right _ (List.mem_singleton.2 rfl))
    · rcases h.c y h1 h2 with h3 | h3
      · exact .inl (List.mem_append_left _ h3)
      · exact .inr ((List.mem_erase_of_ne (by omega)).2 h3)
theorem Inv.skip {E : Nat → Option En} {frm : Nat} {l : List En} {left : List Int} (h : Inv E frm l left) (c : En) (hf : ¬ frm ≤ c.slot) : Inv E frm l (left.erase (c.slot : Int)) := by
  refine ⟨h.nd, fun y hy => ?_, fun y h1 h2 => ?_, h.lnd.erase _⟩
  · obtain ⟨a, b, d⟩ := h.m y hy
    exact ⟨a, b, fun e => d (List.mem_of_mem_erase e)⟩
  · rcases h.c y h1 h2 with h3 | h3
    · exact .inl h3
    · exact .inr ((List.mem_erase_of_ne (by omega)).2 h3)
theorem Inv.end_ {E : Nat → Option En} {frm : Nat} {l : List En} (h : Inv E frm l []) {l' : List En} (hp : l'.Perm l) (hs : l'.Pairwise fun a b => a.slot ≤ b.slot) : IsE E frm l' := by
  refine ⟨?_, fun y => ?_⟩
  · have hn : (l'.map En.slot).Nodup := (hp.map _).nodup_iff.2 h.nd
    unfold Srt
    have h2 : l'.Pairwise fun a b => a.slot ≠ b.slot := by
      unfold List.Nodup at hn
      rw [List.pairwise_map] at hn
      exact hn
    exact (List.Pairwise.and hs h2).imp fun ⟨a, b⟩ => by omega
  · rw [hp.mem_iff]
    exact ⟨fun hy => ⟨(h.m y hy).1, (h.m y hy).2.1⟩, fun ⟨a, b⟩ => (h.c y a b).resolve_right (by simp)⟩
theorem Inv.sub {E : Nat → Option En} {frm : Nat} {l L : List En} {left : List Int} (h : Inv E frm l left) (hL : IsE E frm L) : l.length ≤ L.length := by
  have : l.Nodup := by
    have := h.nd
    unfold List.Nodup at this ⊢
    rw [List.pairwise_map] at this
    exact this.imp fun hne e => hne (congrArg _ e)
  exact len_sub this fun y hy => (hL.m y).2 ⟨(h.m y hy).1, (h.m y hy).2.1⟩
end Acp
end Go.Proofs.YtpjkdcbogjigeaaGreat
