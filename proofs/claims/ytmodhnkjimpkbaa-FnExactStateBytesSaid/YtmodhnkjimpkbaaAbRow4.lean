import Derived.Test.YtmodhnkjimpkbaaAbIm
set_option linter.all false
namespace Go.Proofs.YtmodhnkjimpkbaaAb
open Go Go.ChangeShapes Go.WideShapes
theorem Rel.agg {ρ : Rho} {as bs : List Value} (h : Rel ρ as bs) : VR ρ (.agg as.toArray) (.agg bs.toArray) := by
  have hl := h.length
  refine .agg _ _ (by simpa using hl) fun i h1 h2 => ?_
  have h1' : i < as.length := by simpa using h1
  have h2' : i < bs.length := by simpa using h2
  obtain ⟨u, hu, hV⟩ := h.get i as[i] (List.getElem?_eq_getElem h1')
  rw [List.getElem?_eq_getElem h2'] at hu
  simp only [Option.some.injEq] at hu
  subst hu
  simpa using hV
theorem shape_blk {w : World} {B : Nat} {x : TypeId × Nat} (h : w.shape? B = some x) : Blk w := by
  unfold World.shape? at h
  split at h
  · rename_i c T fz heq; exact ⟨B, c, T, fz, heq⟩
  · cases h
theorem okCell_blk {P : Program} {w : World} {base : Nat} {u : TypeId} {a : Addr} {l c : Nat} (h : Cell.okWide P w .any base u (.slice (some a) l c)) : Blk w := by
  cases hu : P.underlying u with
  | none => simp [Cell.okWide, Cell.ok, hu] at h
  | some d =>
    cases d <;> simp only [Cell.okWide, Cell.ok, hu] at h
    rename_i e
    obtain ⟨_, _, _, _, row, cells, hshape, _⟩ := h
    exact shape_blk hshape
theorem okRow_blk {P : Program} {w : World} {base : Nat} {t : TypeId} {cs : Array Value} (h : Row.okWide P w .any base t cs) : ∀ v ∈ cs.toList, ∀ a l c, v = .slice (some a) l c → Blk w := by
  obtain ⟨ts, _, _, h⟩ := h
  intro v hv a l c e
  subst e
  obtain ⟨i, hi⟩ := List.getElem?_of_mem hv
  obtain ⟨u, _, hu⟩ := h i _ (by simpa using hi)
  exact okCell_blk hu
theorem law_agg {Hd : Type} {enc : TypeId × Value → Hd} {P : Program} (hm : P.follows .mixedOrders = true) {f : FuncId} {w : World} {t : TypeId} {fs : Array Field} (ht : P.underlying t = some (.struct fs)) {base b0 : Nat} {spare : Nat → Bool} {held : Bool} {v : Value} {d : DataW Hd} {ps : List MemPlace} {α : Type} [Rp α] [Bd α]
    (hI : Imp enc P w base spare held t α) (hval : Value.okWide P w .any b0 t v) (h : DataW.Trod enc P w base spare held t v d ps) {ts : List TypeId} {ds : List (DataW Hd)} (hsz : (DataW.weightsEach P ts ds).all (· ≤ reachBytes) = true) {j : Nat} (hts : ts[j]? = some t) (hds : ds[j]? = some d)
    (hc : ∀ n H cs (x : α), (∀ i, n ≤ i → H i = none) → Rp.R H cs x → Bd.bd BU x → C P noPrims n f [.agg cs.toArray] n H (fun v _ _ => v = .bool true)) :
    Calls P f #[v] w fun e w' => e = .returned (.bool true) ∧ Go.RowKit.Below w.heap.size w w' := by
  unfold Value.okWide at hval
  rw [ht] at hval
  obtain ⟨cs, rfl, _, hrow⟩ := hval
  obtain ⟨fuel, hf⟩ := h
  have hf' : DataW.trod enc P w base spare held fuel t cs.toList = some (d, ps) := hf
  obtain ⟨n, ρ, H, cs', x, _, hb, _, _, hrel, hx, hbx⟩ := hI fuel cs.toList _ hf' (fun q hq => by
    have := List.all_eq_true.1 hsz q (DataW.weights_mem_each hts hds q hq)
    simpa using this) (okRow_blk hrow) 0 (fun _ => none) (fun _ => none) ⟨sim_none w, fun _ _ => rfl, fun _ _ => rfl⟩
  refine (hc n H cs' x hb.hn hx hbx).law hm rfl (fun k u hk => ?_) hb.sim hb.hn hb.hr
  cases k with
  | zero =>
    simp only [List.getElem?_cons_zero, Option.some.injEq] at hk
    subst hk
    exact ⟨.agg cs, rfl, by have := hrel.agg; simpa using this⟩
  | succ k => simp at hk
end Go.Proofs.YtmodhnkjimpkbaaAb
