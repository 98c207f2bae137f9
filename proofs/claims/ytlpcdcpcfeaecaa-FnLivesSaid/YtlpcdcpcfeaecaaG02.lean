import Derived.Test.YtlpcdcpcfeaecaaG01
set_option linter.all false
section
set_option maxRecDepth 20000
namespace Go.Proofs.YtlpcdcpcfeaecaaAb
open Go Go.Proofs
theorem set_set (H : Heap) (i : Nat) (a b : Ob) : (H.set i a).set i b = H.set i b := by
  funext j
  by_cases h : j = i
  · subst h; rw [Heap.set_same, Heap.set_same]
  · rw [Heap.set_ne _ _ h, Heap.set_ne _ _ h, Heap.set_ne _ _ h]
def repRow (w : Int) (m c : Nat) : List Value := List.replicate m (.int .i64 w) ++ List.replicate (c - m) (.int .i64 0)
theorem repRow_len {w : Int} {m c : Nat} (h : m ≤ c) : (repRow w m c).length = c := by simp [repRow]; omega
theorem repRow_step {w : Int} {m c j : Nat} (h : m ≤ c) (hj : j ≤ m) (hc : m + j ≤ c) : splice (repRow w m c) m ((repRow w m c).take j) = repRow w (m + j) c := by
  have e1 : (repRow w m c).take j = List.replicate j (.int .i64 w) := by
    unfold repRow
    rw [List.take_append_of_le_length (by rw [List.length_replicate]; exact hj), List.take_replicate, Nat.min_eq_left hj]
  rw [e1]
  unfold splice repRow
  rw [List.take_left' (by simp), List.length_replicate, List.drop_append, List.drop_of_length_le (by rw [List.length_replicate]; omega), List.length_replicate, List.nil_append, List.drop_replicate, ← List.replicate_append_replicate (n := m) (m := j)]
  congr 2
  omega
theorem flat_one (c : Nat) : (List.replicate c [Value.int .i64 0]).flatten = List.replicate c (Value.int .i64 0) := by
  induction c with
  | zero => rfl
  | succ c ih => rw [List.replicate_succ, List.flatten_cons, ih, List.replicate_succ]; rfl
theorem f_slices_Repeat_int_k {Δ : Prims} (g : Env Try.prog Δ) {lo n0 : Nat} {H0 F0 : Heap} (hS : St lo n0 H0 F0) {a : Option Addr} {cap : Nat} {xs1 : List Int} {x2 : Int} (h4 : SrcX H0 F0 (.slice a xs1.length cap) xs1) {res : List Int} (hr : f_slices_Repeat_int xs1 x2 = some res) :
    C Try.prog Δ n0 112 [.slice a xs1.length cap, .int .i64 x2] n0 H0 (fun v n H => ∃ (ra : Option Addr) (rcap : Nat), St n0 n H F0 ∧ v = .slice ra res.length rcap ∧ OW n0 n H F0 (.slice ra res.length rcap) res) := by
  obtain ⟨⟨h1, h2, h3⟩, hr2⟩ := chk_some hr
  clear hr
  obtain rfl := Option.some.inj hr2
  obtain ⟨w, rfl⟩ : ∃ w, xs1 = [w] := by
    match xs1, h1 with
    | [w], _ => exact ⟨w, rfl⟩
  obtain ⟨c, rfl⟩ := Int.eq_ofNat_of_zero_le (show 0 ≤ x2 by omega)
  have hc1 : 1 ≤ c := by omega
  have hc2 : c < 100000 := by omega
  obtain ⟨cs, hsl, hra⟩ := h4
  have hcs : cs = [.int .i64 w] := hra.sc
  subst hcs
  have hN0 : n0 ≤ n0 := Nat.le_refl _
  refine C.body Try.func112 rfl rfl ?_
  repeat (with_reducible refine W.seq ?_)
  with_reducible refine W.region ?_
  refine WL.assign .nil rfl rfl rfl rfl ?_
  with_reducible refine WL.nil ?_
  repeat (with_reducible refine Ex.thn_norm ?_)
  repeat (with_reducible refine W.seq ?_)
  with_reducible refine W.region ?_
  refine WL.move .nil rfl rfl rfl rfl ?_
  refine WL.bin .nil rfl rfl rfl rfl rfl rfl ?_
  with_reducible refine WL.nil ?_
  repeat (with_reducible refine Ex.thn_norm ?_)
  refine W.condD (p := (c : Int) < 0) rfl (fun hc => absurd hc (by omega)) (fun _ => ?_)
  with_reducible refine W.skip ?_
  repeat (with_reducible refine Ex.thn_norm ?_)
  repeat (with_reducible refine W.seq ?_)
  with_reducible refine W.region ?_
  refine WL.move .nil rfl rfl rfl rfl ?_
  refine WL.len .nil rfl rfl rfl Try.underlying31 rfl ?_
  refine WL.convN .nil rfl rfl rfl Try.underlying3 Try.underlying122 rfl topU64 (by simp) (by simp) ?_
  refine WL.move .nil rfl rfl rfl rfl ?_
  refine WL.convN .nil rfl rfl rfl Try.underlying3 Try.underlying122 rfl topU64 (by omega) (by omega) ?_
  refine GL.callIn (args := [.int .u64 ((1 : Nat) : Int), .int .u64 (c : Int)]) .nil n0 rfl rfl rfl rfl rfl rfl Try.func120 rfl rfl (Nat.le_refl _) (Nat.le_refl _) ((mul_k g (Nat.le_refl _) hc2).mono fun v n H h => ?_)
  obtain ⟨hn, hH, rfl⟩ := h
  obtain rfl : n0 = n := hn.symm
  obtain rfl : H0 = H := hH.symm
  refine WL.move .nil rfl rfl rfl rfl ?_
  refine WL.extract .nil rfl rfl rfl rfl rfl ?_
  refine WL.extract .nil rfl rfl rfl rfl rfl ?_
  refine WL.assign .nil rfl rfl rfl rfl ?_
  refine WL.assign .nil rfl rfl rfl rfl ?_
  with_reducible refine WL.nil ?_
  repeat (with_reducible refine Ex.thn_norm ?_)
  repeat (with_reducible refine W.seq ?_)
  with_reducible refine W.region ?_
  refine WL.move .nil rfl rfl rfl rfl ?_
  refine WL.bin .nil rfl rfl rfl rfl rfl rfl ?_
  refine WL.move .nil rfl rfl rfl rfl ?_
  refine WL.guardD (p := (0 : Int) < ((0 : Nat) : Int)) rfl rfl rfl (fun hg => absurd hg (by omega)) (fun hg => ?_)
  refine WL.move .nil rfl rfl rfl rfl ?_
  refine WL.bin .nil rfl rfl rfl rfl rfl rfl ?_
  refine WL.pick .nil rfl rfl rfl rfl rfl ?_
  with_reducible refine WL.nil ?_
  repeat (with_reducible refine Ex.thn_norm ?_)
  refine W.condD (p := (9223372036854775807 : Int) < (c : Int)) rfl (fun hc => absurd hc (by omega)) (fun _ => ?_)
  with_reducible refine W.skip ?_
  repeat (with_reducible refine Ex.thn_norm ?_)
  repeat (with_reducible refine W.seq ?_)
  with_reducible refine W.region ?_
  refine WL.move .nil rfl rfl rfl rfl ?_
  refine WL.convN .nil rfl rfl rfl Try.underlying122 Try.underlying3 rfl topI64 (by omega) (by omega) ?_
  refine WL.make (l' := c) (c := c) .nil rfl rfl rfl Try.underlying31 info3 rfl rfl (by decide) rfl rfl rfl (Nat.le_refl _) (by show 8 * c ≤ 281474976710656; omega) (by unfold UNK; omega) ?_
  refine WL.assign .nil rfl rfl rfl rfl ?_
  with_reducible refine WL.nil ?_
  repeat (with_reducible refine Ex.thn_norm ?_)
  repeat (with_reducible refine W.seq ?_)
  with_reducible refine W.region ?_
  refine WL.move .nil rfl rfl rfl rfl ?_
  refine WL.move .nil rfl rfl rfl rfl ?_
  have hzr : ∀ z' : Value, Cells z' = [.int .i64 0] → (List.replicate c (Cells z')).flatten = repRow w 0 c := fun z' hz => by
    rw [hz]; unfold repRow
    rw [List.replicate_zero, List.nil_append, Nat.sub_zero]
    exact flat_one c
  rw [hzr _ rfl]
  rcases hsl with ⟨_, hl0, _⟩ | ⟨b, k, cap', c0, hv, hb, hcw, hcl⟩
  · simp at hl0
  obtain ⟨rfl, rfl⟩ : a = some ⟨b, k, none⟩ ∧ cap = cap' := by cases hv; exact ⟨rfl, rfl⟩
  have hbn : b < n0 := hS.lt hb
  refine WL.copy (m := 1) (news := [.int .i64 w]) .nil rfl rfl rfl Try.underlying31 info3 rfl (.slice Try.underlying31 rfl rfl ((Heap.set_ne _ _ (by omega)).trans hb) hcw rfl) (Heap.set_same _ _ _) (by rw [repRow_len (by omega)]; show 0 + min 1 c * 1 ≤ c; omega) (Nat.le_refl _) (Nat.lt_succ_self _) (fun v hv => by rcases List.mem_singleton.1 hv with rfl; rfl) ?_
  have e1 : min 1 c = 1 := by omega
  rw [e1, set_set]
  have e2 : splice (repRow w 0 c) 0 ([Value.int .i64 w].take (1 * Try.t3.size)) = repRow w 1 c := by
    unfold splice repRow
    show [] ++ [Value.int .i64 w] ++ List.drop 1 (List.replicate 0 _ ++ List.replicate (c - 0) (Value.int .i64 0)) = _
    simp
  rw [e2]
  refine WL.assign .nil rfl rfl rfl rfl ?_
  with_reducible refine WL.nil ?_
  repeat (with_reducible refine Ex.thn_norm ?_)
  repeat (with_reducible refine W.seq ?_)
  with_reducible refine W.block ?_
  refine W.loopF (fun k fr n H => ∃ m, fr = [(7, .slice (some ⟨n0, 0, none⟩) c c), (8, .int .i64 ((m : Nat) : Int))] ∧ n = n0 + 1 ∧ H = H0.set n0 (.row 1 (repRow w m c)) ∧ 1 ≤ m ∧ m ≤ c ∧ c - m < k) (c + 1) (fr0 := [(7, .slice (some ⟨n0, 0, none⟩) c c), (8, .int .i64 ((1 : Nat) : Int))]) (Fr.le_cons rfl (Fr.le_cons rfl Fr.le_nil)) ?_ ?_ ?_
  · exact ⟨1, rfl, rfl, rfl, Nat.le_refl _, hc1, by omega⟩
  · rintro fr n H ⟨m, _, _, _, _, _, h⟩; omega
  intro kk _ n1 H1 hI
  obtain ⟨m, rfl, rfl, rfl, hm1, hm2, hk⟩ := hI
  repeat (with_reducible refine W.seq ?_)
  with_reducible refine W.region ?_
  refine WL.move .nil rfl rfl rfl rfl ?_
  refine WL.move .nil rfl rfl rfl rfl ?_
  refine WL.len .nil rfl rfl rfl Try.underlying31 rfl ?_
  refine WL.bin .nil rfl rfl rfl rfl rfl rfl ?_
  with_reducible refine WL.nil ?_
  repeat (with_reducible refine Ex.thn_norm ?_)
  repeat (with_reducible refine W.seq ?_)
  refine W.condD (p := ((m : Int)) < (c : Int)) rfl (fun hlt => ?_) (fun hge => ?_)
  · with_reducible refine W.skip ?_
    repeat (with_reducible refine Ex.thn_norm ?_)
    repeat (with_reducible refine W.seq ?_)
    with_reducible refine W.block ?_
    repeat (with_reducible refine W.seq ?_)
    refine W.regionI (fun H => True) [0, 1, 2, 3, 4, 5, 6, 7, 8, 9] [(false, true, false), (false, false, false), (false, false, false), (false, false, false), (false, false, false), (false, false, false), (false, false, false), (true, false, false), (false, false, false), (false, false, false)] true rfl (by kernel_rfl) (by kernel_rfl) (by (conv => lhs; simp only [List.map_cons, List.map_nil, List.getD_cons_zero, List.getD_cons_succ]) <;> rfl) ?_
    refine WLI.late (v := .int .i64 ((m : Nat) : Int)) (fun h => by cases h) rfl rfl (fun H2 hI2 => .move (.inl rfl) rfl) ?_
    refine WLI.op (fun h => by cases h) ?_
    refine WL.move .r rfl rfl rfl rfl ?_
    with_reducible refine WL.nil ⟨rfl, ?_⟩
    refine WLI.op (fun h => by cases h) ?_
    refine WL.move .r rfl rfl rfl rfl ?_
    with_reducible refine WL.nil ⟨rfl, ?_⟩
    refine WLI.op (fun h => by cases h) ?_
    refine WL.slice (h := c) (m := lb c c) .r rfl rfl rfl Try.underlying31 info3 rfl (Heap.set_same _ _ _) rfl rfl ⟨_, rfl⟩ rfl (Nat.le_refl _) (fun h => by cases h) (by omega) le_lb ?_
    with_reducible refine WL.nil ⟨rfl, ?_⟩
    refine WLI.op (fun h => by cases h) ?_
    refine WL.move .r rfl rfl rfl rfl ?_
    with_reducible refine WL.nil ⟨rfl, ?_⟩
    refine WLI.op (fun h => by cases h) ?_
    refine WL.move .r rfl rfl rfl rfl ?_
    with_reducible refine WL.nil ⟨rfl, ?_⟩
    refine WLI.op (fun h => by cases h) ?_
    refine WL.slice (h := m) (m := lb c c) .r rfl rfl rfl Try.underlying31 info3 rfl (Heap.set_same _ _ _) rfl rfl rfl ⟨_, rfl⟩ (Nat.le_refl _) (fun h => by cases h) (by omega) (Nat.le_trans hm2 le_lb) ?_
    with_reducible refine WL.nil ⟨rfl, ?_⟩
    refine WLI.op (fun h => by cases h) ?_
    have hj : min m (c - m) ≤ m := Nat.min_le_left _ _
    have hsm : (repRow w m c).take m = List.replicate m (.int .i64 w) := by
      unfold repRow
      rw [List.take_append_of_le_length (by simp), List.take_replicate, Nat.min_self]
    refine WL.copy (m := m) (news := (repRow w m c).take m) .w rfl rfl rfl Try.underlying31 info3 rfl (.slice Try.underlying31 rfl rfl (Heap.set_same _ _ _) (by show ((repRow w m c).drop (0 + 0 * 1)).take (m * 1) = _; simp) (by rw [hsm, List.length_replicate]; show m = m * 1; omega)) (Heap.set_same _ _ _) (by rw [repRow_len hm2]; show 0 + m * 1 + min m (c - m) * 1 ≤ c; omega) (Nat.le_refl _) (Nat.lt_succ_self _) (fun v hv => by rw [hsm] at hv; rw [List.eq_of_mem_replicate hv]; rfl) ?_
    with_reducible refine WL.nil ⟨rfl, ?_⟩
    refine WLI.op (fun h => by cases h) ?_
    refine WL.addI .r rfl rfl rfl rfl rfl (by omega) (by omega) ?_
    with_reducible refine WL.nil ⟨rfl, ?_⟩
    refine WLI.op (fun h => by cases h) ?_
    refine WL.assign .r rfl rfl rfl rfl ?_
    with_reducible refine WL.nil ⟨rfl, ?_⟩
    refine WLI.nil (fun _ => trivial) ?_
    repeat (first | with_reducible refine Ex.thn_norm ?_ | with_reducible refine Ex.blk_norm ?_)
    have e3 : splice (repRow w m c) (0 + m * Try.t3.size) (((repRow w m c).take m).take (min m (c - m) * Try.t3.size)) = repRow w (m + min m (c - m)) c := by
      have e4 : 0 + m * Try.t3.size = m := by show 0 + m * 1 = m; omega
      have e5 : min m (c - m) * Try.t3.size = min m (c - m) := by show min m (c - m) * 1 = _; omega
      rw [e4, e5, List.take_take, Nat.min_eq_left hj]
      exact repRow_step hm2 hj (by omega)
    rw [set_set, e3]
    exact ⟨_, Fr.le_cons rfl (Fr.le_cons rfl Fr.le_nil), m + min m (c - m), by rw [Int.natCast_add], rfl, rfl, by omega, by omega, by omega⟩
  · with_reducible refine W.exit ?_
    repeat (first | with_reducible refine Ex.thn_ex ?_ | with_reducible refine Ex.blk_here ?_ | with_reducible refine Ex.thn_norm ?_)
    repeat (with_reducible refine W.seq ?_)
    have em : m = c := by omega
    subst em
    with_reducible refine W.region ?_
    refine WL.move .nil rfl rfl rfl rfl ?_
    refine WL.assign .nil rfl rfl rfl rfl ?_
    with_reducible refine WL.nil ?_
    repeat (with_reducible refine Ex.thn_norm ?_)
    with_reducible refine W.ret ?_
    repeat (with_reducible refine Ex.thn_ret ?_)
    have er : repRow w m m = List.replicate m (.int .i64 w) := by unfold repRow; rw [Nat.sub_self]; simp
    have el : (List.replicate ((m : Int)).toNat (([w] : List Int).headD 0)).length = m := by simp
    refine ⟨.inr rfl, _, resl1 rfl, some ⟨n0, 0, none⟩, m, (hS.low (Nat.le_refl n0)).new _, by rw [el]; rfl, ?_⟩
    have hra2 : RA F0 (List.replicate m (.int .i64 w)) (List.replicate ((m : Int)).toNat (([w] : List Int).headD 0)) := by
      have := RA.ofSc F0 (List.replicate m w)
      rw [List.map_replicate] at this
      exact this
    rw [el]
    refine ⟨by rw [el]; unfold UNK; omega, fun i hi => ?_, _, .inr ⟨n0, 0, m, repRow w m m, by rw [el], Heap.set_same _ _ _, ?_, hra2.length, Nat.le_refl _, Nat.lt_succ_self _, Nat.zero_le _, .inl ⟨by rw [el], by unfold UNK; omega⟩⟩, hra2⟩
    · have hin : n0 = i := by simpa [idOf] using hi
      subst hin; exact hS.fnone (Nat.le_refl _)
    · rw [el, er, List.drop_zero]
      show List.take (m * 1) _ = _
      rw [Nat.mul_one, List.take_of_length_le (by simp)]
end Go.Proofs.YtlpcdcpcfeaecaaAb
end
