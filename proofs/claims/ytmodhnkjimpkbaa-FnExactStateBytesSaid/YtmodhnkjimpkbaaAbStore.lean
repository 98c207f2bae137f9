import Derived.Test.YtmodhnkjimpkbaaAbSim
set_option linter.all false
namespace Go.Proofs.YtmodhnkjimpkbaaAb
open Go
def splice (c : List Value) (o : Nat) (l : List Value) : List Value := c.take o ++ l ++ c.drop (o + l.length)
theorem length_splice {c : List Value} {o : Nat} {l : List Value} (h : o + l.length ≤ c.length) : (splice c o l).length = c.length := by
  simp [splice]; omega
theorem getElem?_splice {c : List Value} {o : Nat} {l : List Value} (h : o + l.length ≤ c.length) (k : Nat) :
    (splice c o l)[k]? = if k < o then c[k]? else if k < o + l.length then l[k - o]? else c[k]? := by
  unfold splice
  have ht : (c.take o).length = o := by simp; omega
  by_cases h1 : k < o
  · rw [if_pos h1, List.append_assoc, List.getElem?_append_left (by omega), List.getElem?_take_of_lt h1]
  · rw [if_neg h1]
    by_cases h2 : k < o + l.length
    · rw [if_pos h2, List.append_assoc, List.getElem?_append_right (by omega), List.getElem?_append_left (by omega), ht]
    · rw [if_neg h2, List.getElem?_append_right (by simp; omega), List.getElem?_drop]
      congr 1
      simp; omega
theorem heap_setCell (w : World) (b o : Nat) (v : Value) (cc : Array Value) (T : TypeId) (fz : Nat × Nat) (h : w.heap[b]? = some (.cells cc T fz)) :
    (w.setCell ⟨b, o, none⟩ v).heap[b]? = some (.cells (cc.setIfInBounds o v) T fz) ∧ ∀ B, B ≠ b → (w.setCell ⟨b, o, none⟩ v).heap[B]? = w.heap[B]? := by
  constructor
  · simp [World.setCell, Array.getElem?_modify, h]
  · intro B hB
    simp [World.setCell, Array.getElem?_modify, Ne.symm hB]
theorem size_setCell (w : World) (a : Addr) (v : Value) : (w.setCell a v).heap.size = w.heap.size := by simp [World.setCell]
theorem heap_setCells (b : Nat) (T : TypeId) (fz : Nat × Nat) : ∀ (vs : List Value) (o : Nat) (w : World) (cc : Array Value), w.heap[b]? = some (.cells cc T fz) → o + vs.length ≤ cc.size →
    (∃ cc' : Array Value, (w.setCells b o vs).heap[b]? = some (.cells cc' T fz) ∧ cc'.size = cc.size ∧ ∀ k, cc'[k]? = if k < o then cc[k]? else if k < o + vs.length then vs[k - o]? else cc[k]?) ∧
      (∀ B, B ≠ b → (w.setCells b o vs).heap[B]? = w.heap[B]?) ∧ (w.setCells b o vs).heap.size = w.heap.size
  | [], o, w, cc, h, _ => ⟨⟨cc, h, rfl, fun k => by simp; omega⟩, fun _ _ => rfl, rfl⟩
  | v :: r, o, w, cc, h, hl => by
    simp only [List.length_cons] at hl
    obtain ⟨h1, h2⟩ := heap_setCell w b o v cc T fz h
    obtain ⟨⟨cc', a, s, e⟩, f, g⟩ := heap_setCells b T fz r (o + 1) (w.setCell ⟨b, o, none⟩ v) (cc.setIfInBounds o v) h1 (by simp; omega)
    refine ⟨⟨cc', a, by simpa using s, fun k => ?_⟩, fun B hB => (f B hB).trans (h2 B hB), g.trans (size_setCell _ _ _)⟩
    rw [e k]
    by_cases k1 : k < o
    · rw [if_pos (by omega), if_pos k1, Array.getElem?_setIfInBounds_ne (by omega)]
    · by_cases k2 : k = o
      · subst k2
        rw [if_pos (by omega), if_neg (by omega), if_pos (by simp)]
        rw [Array.getElem?_setIfInBounds_self_of_lt (by omega)]
        simp
      · rw [if_neg (by omega), if_neg k1]
        by_cases k3 : k < o + 1 + r.length
        · rw [if_pos k3, if_pos (by simp; omega)]
          rw [show k - o = (k - (o + 1)) + 1 by omega, List.getElem?_cons_succ]
        · rw [if_neg k3, if_neg (by simp; omega), Array.getElem?_setIfInBounds_ne (by omega)]
section
variable {β : Nat} {ρ : Rho} {H : Heap} {w : World}
theorem setCells_out (b : Nat) : ∀ (vs : List Value) (o : Nat) (w : World), SameOut w (w.setCells b o vs)
  | [], _, w => .refl w
  | v :: r, o, w => by
    refine SameOut.trans (b := w.setCell ⟨b, o, none⟩ v) ?_ (setCells_out b r (o + 1) _)
    exact ⟨by simp [World.setCell], by simp [World.setCell], by simp [World.setCell]⟩
theorem Ok.store {lo n i e : Nat} {c : List Value} {s : Spot} (h : Sim β ρ H w) (hβ : β ≤ lo) (hi : lo ≤ i) (hin : i < n) (ho : H i = some (.row e c)) (hr : ρ i = some s)
    {o : Nat} {l l' : List Value} (hl : o + l.length ≤ c.length) (hll : l'.length = l.length) (hV : ∀ (k : Nat) v, l[k]? = some v → ∃ v', l'[k]? = some v' ∧ VR ρ v v')
    (h1 : ∀ v ∈ l, v.oneCell' = true) :
    Ok β lo ρ n H w ρ n (H.set i (.row e (splice c o l))) (w.setCells s.blk (s.off + o) l') := by
  obtain ⟨cc, T, fz, hb, he, hlen, hroom, hcell, hfz, hone⟩ := h.row i e c s ho hr
  obtain ⟨⟨cc', b1, b2, b3⟩, b4, b5⟩ := heap_setCells s.blk T fz l' (s.off + o) w cc hb (by omega)
  have hother : ∀ j t, j ≠ i → (H j).isSome → ρ j = some t → t.blk ≠ s.blk := fun j t hj hl ht heq =>
    hj (h.inj i j s t (by simp [ho]) hl hr ht heq.symm (by omega)).symm
  refine ⟨⟨fun j e' c' t ho' hr' => ?_, fun j es t ho' hr' => ?_, fun j k t t' hj hk hr1 hr2 => ?_⟩, Nat.le_refl _, fun _ _ => rfl, fun _ _ => rfl,
    fun j hj => Heap.set_ne _ _ (by omega), by rw [b5]; exact Nat.le_refl _, fun B hB hne => b4 B (fun heq => hne i s hi hin (by simp [ho]) hr heq.symm),
    fun j _ h1 h2 => by omega, fun j hj h => by rw [Heap.set_ne _ _ (fun e => by subst e; rw [ho] at h; cases h)]; exact h, setCells_out _ _ _ _⟩
  · by_cases hj : j = i
    · subst hj
      rw [Heap.set_same] at ho'
      obtain ⟨rfl, rfl⟩ := Ob.row.inj (Option.some.inj ho')
      rw [hr] at hr'
      obtain rfl := Option.some.inj hr'
      refine ⟨cc', T, fz, b1, he, by rw [length_splice hl]; exact hlen, by omega, fun k v hk => ?_, hfz, fun _ v hv => ?_⟩
      · rw [getElem?_splice hl] at hk
        rw [b3]
        by_cases k1 : k < o
        · rw [if_pos k1] at hk
          rw [if_pos (by omega)]
          exact hcell k v hk
        · rw [if_neg k1] at hk
          rw [if_neg (by omega)]
          by_cases k2 : k < o + l.length
          · rw [if_pos k2] at hk
            rw [if_pos (by omega), show s.off + k - (s.off + o) = k - o by omega]
            exact hV _ v hk
          · rw [if_neg k2] at hk
            rw [if_neg (by omega)]
            exact hcell k v hk
      · simp only [splice, List.mem_append] at hv
        have hone' := hone (by omega)
        rcases hv with (hv | hv) | hv
        · exact hone' v (List.mem_of_mem_take hv)
        · exact h1 v hv
        · exact hone' v (List.mem_of_mem_drop hv)
    · rw [Heap.set_ne _ _ hj] at ho'
      obtain ⟨cc2, T2, fz2, a1, a2, a3, a4, a5, a6, a7⟩ := h.row j e' c' t ho' hr'
      exact ⟨cc2, T2, fz2, by rw [b4 _ (hother j t hj (by simp [ho']) hr')]; exact a1, a2, a3, a4, a5, a6, a7⟩
  · by_cases hj : j = i
    · subst hj; rw [Heap.set_same] at ho'; cases Option.some.inj ho'
    · rw [Heap.set_ne _ _ hj] at ho'
      obtain ⟨en, cl, a1, a2, a3⟩ := h.mp j es t ho' hr'
      exact ⟨en, cl, by rw [b4 _ (hother j t hj (by simp [ho']) hr')]; exact a1, a2, a3⟩
  · have live : ∀ x, (H.set i (.row e (splice c o l)) x).isSome → (H x).isSome := fun x hx => by
      by_cases hxi : x = i
      · subst hxi; simp [ho]
      · rwa [Heap.set_ne _ _ hxi] at hx
    exact h.inj j k t t' (live j hj) (live k hk) hr1 hr2
end
end Go.Proofs.YtmodhnkjimpkbaaAb
