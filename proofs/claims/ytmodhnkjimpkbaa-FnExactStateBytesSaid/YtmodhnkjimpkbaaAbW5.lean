import Derived.Test.YtmodhnkjimpkbaaAbW4
set_option linter.all false
namespace Go.Proofs.YtmodhnkjimpkbaaAb
open Go
theorem OwnS.mono {lo lo' n n' : Nat} {H H' : Heap} {sz : Nat} {v : Value} {len : Nat} {cs : List Value} (h : OwnS lo n H sz v len cs) (hlo : lo' ≤ lo) (hn : n ≤ n') (hH : ∀ i, i < n → idOf v = some i → H' i = H i) : OwnS lo' n' H' sz v len cs := by
  rcases h with h | ⟨b, k, cap, c, rfl, hb, h2, h3, h4, h5, h6, h7⟩
  · exact .inl h
  · exact .inr ⟨b, k, cap, c, rfl, by rw [hH b h5 rfl]; exact hb, h2, h3, by omega, by omega, h6, h7⟩
theorem OwnS.id_lt {lo n : Nat} {H : Heap} {sz : Nat} {v : Value} {len : Nat} {cs : List Value} (h : OwnS lo n H sz v len cs) {i : Nat} (hi : idOf v = some i) : lo ≤ i ∧ i < n := by
  rcases h with ⟨rfl, _⟩ | ⟨b, k, cap, c, rfl, hb, h2, h3, h4, h5, h6, h7⟩
  · cases hi
  · simp only [idOf, Option.some.injEq] at hi; omega
theorem cells_int (k : IntKind) (n : Int) : Cells (.int k n) = [.int k n] := rfl
theorem cells_bool (b : Bool) : Cells (.bool b) = [.bool b] := rfl
theorem cells_string (b : ByteArray) : Cells (.string b) = [.string b] := rfl
theorem cells_str (b : List UInt8) : Cells (str b) = [str b] := rfl
theorem cells_slice (a : Option Addr) (n c : Nat) : Cells (.slice a n c) = [.slice a n c] := rfl
theorem cells_ptr (a : Option Addr) : Cells (.pointer a) = [.pointer a] := rfl
theorem cells_map (a : Option Nat) : Cells (.map a) = [.map a] := rfl
theorem cells_func (f : Fn) (a c : Array Value) : Cells (.func f a c) = [.func f a c] := rfl
theorem cells_nilFunc : Cells .nilFunc = [.nilFunc] := rfl
theorem cells_nilIface : Cells .nilIface = [.nilIface] := rfl
theorem cells_iface (t : TypeId) (v : Value) : Cells (.iface t v) = [.iface t v] := rfl
theorem cells_agg (c : Array Value) : Cells (.agg c) = c.toList := rfl
theorem cells_u8 (b : UInt8) : Cells (u8 b) = [u8 b] := rfl
theorem one_of_u8 (b : UInt8) : (u8 b).oneCell' = true := rfl
def byteOf (x : Int) : UInt8 := (x % 256).toNat.toUInt8
theorem u8_byteOf (x : Int) : Value.int .u8 (IntKind.wrap .u8 x) = u8 (byteOf x) := by
  rw [wrap_u8_mod]
  simp only [u8, byteOf]
  congr 1
  have h1 : 0 ≤ x % 256 := Int.emod_nonneg _ (by decide)
  have h2 : x % 256 < 256 := Int.emod_lt_of_pos _ (by decide)
  have h3 : (x % 256).toNat < 256 := by omega
  rw [Nat.toUInt8, UInt8.toNat_ofNat_of_lt' h3]
  omega
section
variable {P : Program} {Δ : Prims} {lo : Nat} {fr : Fr} {n : Nat} {H : Heap} {Q : Post}
theorem W.loopI {α : Type} {c : Code} (I : α → Fr → Nat → Heap → Prop) (μ : α → Nat) (a0 : α) {fr0 : Fr} (hle : Fr.le fr0 fr) (h0 : I a0 fr0 n H)
    (step : ∀ a fr n H, I a fr n H → W P Δ lo c fr n H (Ex.thn (fun fr1 n1 H1 => ∃ a' fr2, μ a' < μ a ∧ Fr.le fr2 fr1 ∧ I a' fr2 n1 H1) Q)) : W P Δ lo (.loop c) fr n H Q := by
  refine W.weak hle ?_
  have key : ∀ m a fr n H, μ a = m → I a fr n H → W P Δ lo (.loop c) fr n H Q := by
    intro m
    induction m using Nat.strongRecOn with
    | _ m ih =>
      intro a fr n H hm hI
      refine W.loop (W.mono (step a fr n H hI) fun e fr' n' H' q => ?_)
      cases e with
      | norm =>
        obtain ⟨a', fr2, h1, h2, h3⟩ := q
        exact W.weak h2 (ih (μ a') (by omega) a' fr2 n' H' rfl h3)
      | ret => exact q
      | ex id => exact q
      | pan v => exact q
  exact key _ a0 fr0 n H rfl h0
section ops
variable {all : Array Oper} {l : List Oper} {o : Oper} {d : Nat}
theorem WL.convB {fl fl2 : List Bool} {lw : Nat} (hfl : IsFl fl lo n lw fl2) {s t : TypeId} {ds : TypeDesc} {x : Operand} {q : IntKind} {a : Int} (ho : o.op = .convert s t x) (hd : o.dst = some d) (hw : wantedA all o fr = some true) (hs : P.underlying s = some ds) (ht : P.underlying t = some (.int .u8)) (hx : fr.eval x = some (.int q a)) (kk : WL P Δ lo fl2 all l ((d, u8 (byteOf a)) :: fr) n H Q) : WL P Δ lo fl all (o :: l) fr n H Q :=
  WL.convI hfl ho hd hw hs ht hx (by rw [u8_byteOf]; exact kk)
theorem one_u8 (l : List UInt8) : ∀ v ∈ l.map u8, v.oneCell' = true := fun v hv => by
  obtain ⟨b, _, rfl⟩ := List.mem_map.1 hv; rfl
theorem WL.appB {fl fl2 : List Bool} {lw : Nat} (hfl : IsFl fl lo n lw fl2) {t u el : TypeId} {i : TypeInfo} {z : Value} {x y : Operand} {v : Value} {bs new : List UInt8} {news : List Value} {m : Nat} (ho : o.op = .call { callee := .builtin .append, args := #[x, y], argTypes := #[t, u] }) (hd : o.dst = some d) (hw : wantedA all o fr = some true) (ht : P.underlying t = some (.slice el)) (hi : P.info? el = some i) (hz : i.zero = some z) (hzs : (Cells z).length = i.size)
    (hs1 : i.size = 1) (hb1 : i.bytes = 1) (hx : fr.eval x = some v) (hown : OwnS lw n H 1 v bs.length (bs.map u8)) (hsrc : Src P fr.eval H i.size u y m news) (hnew : news = new.map u8) (hm : m = new.length) (hm0 : 0 < m) (hby : bs.length + m ≤ 140737488355328)
    (kk : ∀ H', H' n = some (.row 1 ((bs ++ new).map u8)) → (∀ j, j < n → idOf v ≠ some j → H' j = H j) → (∀ lo', lo' ≤ n → OwnS lo' (n + 1) H' 1 (.slice (some ⟨n, 0, none⟩) (bs ++ new).length (UNK + (bs ++ new).length)) (bs ++ new).length ((bs ++ new).map u8)) →
      WL P Δ lo fl2 all l ((d, .slice (some ⟨n, 0, none⟩) (bs ++ new).length (UNK + (bs ++ new).length)) :: fr) (n + 1) H' Q) : WL P Δ lo fl all (o :: l) fr n H Q := by
  subst hnew; subst hm
  refine WL.app hfl ho hd hw ht hi hz hzs hx (by rw [hs1]; exact hown) hsrc hm0 (one_u8 _) (one_u8 _) (by rw [hb1]; omega) (by unfold UNK; omega) (fun H' h1 h2 h3 => ?_) (by rw [hs1]; simp)
  rw [hs1] at h1 h3
  rw [← List.map_append] at h1 h3
  have := kk H' h1 h2 (fun lo' h => by simpa using h3 lo' h)
  simpa using this
end ops
end
def FB (n0 n : Nat) (H : Heap) (v : Value) (bs : List UInt8) : Prop := ∃ b, v = .slice (some ⟨b, 0, none⟩) bs.length (UNK + bs.length) ∧ H b = some (.row 1 (bs.map u8)) ∧ n0 ≤ b ∧ b < n
theorem resl1 {P : Program} {H : Heap} {fr : Fr} {t : Nat} {v : Value} (h : fr.get t = some v) : ResL P H fr [.tmp t] [v] := .cons (.tmp h) .nil
theorem resl2 {P : Program} {H : Heap} {fr : Fr} {t u : Nat} {v v' : Value} (h : fr.get t = some v) (h' : fr.get u = some v') : ResL P H fr [.tmp t, .tmp u] [v, v'] := .cons (.tmp h) (resl1 h')
theorem resl3 {P : Program} {H : Heap} {fr : Fr} {t u x : Nat} {v v' v'' : Value} (h : fr.get t = some v) (h' : fr.get u = some v') (h'' : fr.get x = some v'') : ResL P H fr [.tmp t, .tmp u, .tmp x] [v, v', v''] := .cons (.tmp h) (resl2 h' h'')
end Go.Proofs.YtmodhnkjimpkbaaAb
