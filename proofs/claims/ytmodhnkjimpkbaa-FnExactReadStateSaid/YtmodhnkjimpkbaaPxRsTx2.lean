import Derived.Test.YtmodhnkjimpkbaaPxRsTx1
import Derived.Test.YtmodhnkjimpkbaaPxRsD
import Derived.Test.YtmodhnkjimpkbaaAbInfoS
import Derived.KernelRfl
set_option linter.all false
set_option maxRecDepth 20000
namespace Go.Proofs.YtmodhnkjimpkbaaAb
open Go Go.Proofs
theorem f_laws_FnExactReadState_k {Δ : Prims} (g : Env Try.prog Δ) {lo n0 : Nat} {H0 F0 : Heap} (hS : St lo n0 H0 F0) {a2 : Option Addr} {cap3 : Nat} {xs1 : (List UInt8)} (h4 : SR F0 (.slice a2 xs1.length cap3) xs1) {res : (Bool)} (hr : f_laws_FnExactReadState xs1 = some res) :
    C Try.prog Δ n0 3 [.slice a2 xs1.length cap3] n0 H0 (fun v n H => St n0 n H F0 ∧ v = .bool res) := by
  refine C.body Try.func3 rfl rfl ?_
  unfold f_laws_FnExactReadState at hr
  have hS0 : St n0 n0 H0 F0 := hS.low (Nat.le_refl _)
  have hE0 := Ext.refl n0 F0
  have hlo0 := hS0.lo
  with_reducible refine W.seq ?_
  with_reducible refine W.region ?_
  refine WL.assign .nil rfl rfl rfl rfl ?_
  with_reducible refine WL.nil ?_
  with_reducible refine Ex.thn_norm ?_
  with_reducible refine W.seq ?_
  with_reducible refine W.seq ?_
  with_reducible refine W.region ?_
  refine WL.move .nil rfl rfl rfl rfl ?_
  refine WL.len .nil rfl rfl rfl Try.underlying22 rfl ?_
  refine WL.bin .nil rfl rfl rfl rfl rfl rfl ?_
  with_reducible refine WL.nil ?_
  with_reducible refine Ex.thn_norm ?_
  refine W.condD rfl (fun hc6 => ?_) (fun hc6 => ?_)
  · replace hr := ite_pos hr hc6
    with_reducible refine W.seq ?_
    with_reducible refine W.region ?_
    refine WL.assign .nil rfl rfl rfl rfl ?_
    with_reducible refine WL.nil ?_
    with_reducible refine Ex.thn_norm ?_
    with_reducible refine W.ret ?_
    with_reducible refine Ex.thn_ret ?_
    obtain rfl := Option.some.inj hr
    exact ⟨.inr rfl, _, (.cons (.tmp rfl) .nil), ⟨(Ext.st hE0 hS0), rfl⟩⟩
  · replace hr := ite_neg hr hc6
    with_reducible refine W.skip ?_
    with_reducible refine Ex.thn_norm ?_
    with_reducible refine W.seq ?_
    with_reducible refine W.region ?_
    refine WL.move .nil rfl rfl rfl rfl ?_
    obtain ⟨x7, hx7, hr⟩ := bnd_some hr
    refine GL.callP g.good .nil rfl rfl rfl rfl rfl rfl Try.func6 rfl rfl hS0.lo (f_laws_toByteS_k  g hS0 h4 hx7) (fun v n8 H9 hn10 hk11 hp12 => ?_)
    obtain ⟨a13, cap14, hS16, rfl, h15⟩ := hp12
    have hS17 : St n0 n8 H9 F0 := ⟨by have := hS0.lo; omega, hS16.hb, hS16.fh⟩
    have hlon8 := hS17.lo
    have h18 := OW.lower (lo' := n0) h15 (by omega)
    obtain ⟨F20, hS21, hle22, h23, hf24⟩ := OW.freeze h18 hS17
    obtain ⟨x26, hx26, hr⟩ := bnd_some hr
    have hb32 := fun b hb => (OW.id_lt (i := b) h18 hb).2
    refine GL.callP g.good .nil rfl rfl rfl rfl rfl rfl Try.func5 rfl rfl hS17.lo (f_spec_ReadState_k  g hS21 h23 hx26) (fun v n27 H28 hn29 hk30 hp31 => ?_)
    obtain ⟨a33, cap34, a36, cap37, hS39, rfl, h35, h38, ap40⟩ := hp31
    have h41 := OW.keep (n' := n27) h18 (by omega) (fun i hi => hk30 i (OW.id_lt h18 hi).2)
    have hS42 : St n0 n27 H28 F0 := ⟨by have := hS17.lo; omega, hS39.hb, fun i o hi => (hk30 i (hS17.lt (hS17.fh i o hi))).trans (hS17.fh i o hi)⟩
    have hlon27 := hS42.lo
    have h43 := OW.lower (lo' := n0) (OW.downFl hle22 h35) (by omega)
    have ap45 : ∀ b, idOf (.slice a33 x26.1.Files.length cap34) = some b → idOf (.slice a13 x7.length cap14) ≠ some b := fun b hj hi => by have := (OW.id_lt h35 hj).1; have := hb32 b hi; omega
    have h46 := OW.lower (lo' := n0) (OW.downFl hle22 h38) (by omega)
    have ap48 : ∀ b, idOf (.slice a36 x26.1.Sessions.length cap37) = some b → idOf (.slice a13 x7.length cap14) ≠ some b := fun b hj hi => by have := (OW.id_lt h38 hj).1; have := hb32 b hi; omega
    refine WL.move .nil rfl rfl rfl rfl ?_
    refine WL.extract .nil rfl rfl rfl rfl rfl ?_
    refine WL.extract .nil rfl rfl rfl rfl rfl ?_
    refine GL.alloc hS42 .nil (zc := [.slice none 0 0, .slice none 0 0]) rfl rfl rfl info26 rfl rfl rfl (fun H49 hS50 ho51 hk52 => ?_)
    have fo53 := hS42.fnone (Nat.le_refl _)
    have ap55 : idOf (.slice a13 x7.length cap14) ≠ some n27 := fun hj => by have := OW.id_lt h41 hj; omega
    have ap56 : idOf (.slice a33 x26.1.Files.length cap34) ≠ some n27 := fun hj => by have := OW.id_lt h43 hj; omega
    have ap57 : idOf (.slice a36 x26.1.Sessions.length cap37) ≠ some n27 := fun hj => by have := OW.id_lt h46 hj; omega
    have h58 := OW.keep (n' := (n27 + 1)) h41 (by omega) (fun i hi => hk52 i (OW.id_lt h41 hi).2)
    have h59 := OW.keep (n' := (n27 + 1)) h43 (by omega) (fun i hi => hk52 i (OW.id_lt h43 hi).2)
    have h60 := OW.keep (n' := (n27 + 1)) h46 (by omega) (fun i hi => hk52 i (OW.id_lt h46 hi).2)
    have hlon271 := hS50.lo
    have lt54 : n27 < (n27 + 1) := by omega
    refine GL.store hS50 .nil (vc := [.slice a33 x26.1.Files.length cap34, .slice a36 x26.1.Sessions.length cap37]) (c' := [.slice a33 x26.1.Files.length cap34, .slice a36 x26.1.Sessions.length cap37]) rfl rfl rfl info26 rfl rfl rfl rfl ho51 fo53 (Nat.le_of_ble_eq_true rfl) (by omega) (by repeat' (first | exact List.forall_mem_nil _ | refine List.forall_mem_cons.2 ⟨?_, ?_⟩ | rfl)) rfl (fun H61 hS62 ho63 hk64 => ?_)
    have h65 := OW.keep h58 (Nat.le_refl _) (fun i hi => hk64 i (fun hj => ap55 (hj ▸ hi)))
    have h66 := OW.keep h59 (Nat.le_refl _) (fun i hi => hk64 i (fun hj => ap56 (hj ▸ hi)))
    have h67 := OW.keep h60 (Nat.le_refl _) (fun i hi => hk64 i (fun hj => ap57 (hj ▸ hi)))
    refine WL.assign .nil rfl rfl rfl rfl ?_
    with_reducible refine WL.nil ?_
    with_reducible refine Ex.thn_norm ?_
    with_reducible refine W.seq ?_
    with_reducible refine W.region ?_
    refine WL.move .nil rfl rfl rfl rfl ?_
    obtain ⟨x68, hx68, hr⟩ := bnd_some hr
    have hb74 := fun b hb => (OW.id_lt (i := b) h65 hb).2
    have hb75 := fun b hb => (OW.id_lt (i := b) h66 hb).2
    have hb76 := fun b hb => (OW.id_lt (i := b) h67 hb).2
    refine GL.callP g.good .nil rfl rfl rfl rfl rfl rfl Try.func6 rfl rfl hS62.lo (f_laws_toByteS_k  g hS62 h4 hx68) (fun v n69 H70 hn71 hk72 hp73 => ?_)
    obtain ⟨a77, cap78, hS80, rfl, h79⟩ := hp73
    have ho81 := (hk72 _ (by have := lt54; omega)).trans ho63
    have h82 := OW.keep (n' := n69) h65 (by omega) (fun i hi => hk72 i (OW.id_lt h65 hi).2)
    have h83 := OW.keep (n' := n69) h66 (by omega) (fun i hi => hk72 i (OW.id_lt h66 hi).2)
    have h84 := OW.keep (n' := n69) h67 (by omega) (fun i hi => hk72 i (OW.id_lt h67 hi).2)
    have hS85 : St n0 n69 H70 F0 := ⟨by have := hS62.lo; omega, hS80.hb, hS80.fh⟩
    have hlon69 := hS85.lo
    have h86 := OW.lower (lo' := n0) h79 (by omega)
    have ap88 : idOf (.slice a77 x68.length cap78) ≠ some n27 := fun hj => by have := (OW.id_lt h79 hj).1; have := lt54; omega
    have ap89 : ∀ b, idOf (.slice a77 x68.length cap78) = some b → idOf (.slice a13 x7.length cap14) ≠ some b := fun b hj hi => by have := (OW.id_lt h79 hj).1; have := hb74 b hi; omega
    have ap90 : ∀ b, idOf (.slice a77 x68.length cap78) = some b → idOf (.slice a33 x26.1.Files.length cap34) ≠ some b := fun b hj hi => by have := (OW.id_lt h79 hj).1; have := hb75 b hi; omega
    have ap91 : ∀ b, idOf (.slice a77 x68.length cap78) = some b → idOf (.slice a36 x26.1.Sessions.length cap37) ≠ some b := fun b hj hi => by have := (OW.id_lt h79 hj).1; have := hb76 b hi; omega
    refine WL.assign .nil rfl rfl rfl rfl ?_
    with_reducible refine WL.nil ?_
    with_reducible refine Ex.thn_norm ?_
    with_reducible refine W.seq ?_
    with_reducible refine W.region ?_
    refine WL.move .nil rfl rfl rfl rfl ?_
    obtain ⟨F92, hS93, hle94, h95, hf96⟩ := OW.freeze h86 hS85
    have fo97 := (hf96 _ ap88).trans fo53
    have h98 := OW.keepF h82 hle94 (fun i hi => (hf96 i (fun hj => ap89 i hj hi)).trans (OW.fnone h82 hi))
    have h99 := OW.keepF h83 hle94 (fun i hi => (hf96 i (fun hj => ap90 i hj hi)).trans (OW.fnone h83 hi))
    have h100 := OW.keepF h84 hle94 (fun i hi => (hf96 i (fun hj => ap91 i hj hi)).trans (OW.fnone h84 hi))
    obtain ⟨x102, hx102, hr⟩ := bnd_some hr
    have hb108 := fun b hb => (OW.id_lt (i := b) h82 hb).2
    have hb109 := fun b hb => (OW.id_lt (i := b) h83 hb).2
    have hb110 := fun b hb => (OW.id_lt (i := b) h84 hb).2
    have hb111 := fun b hb => (OW.id_lt (i := b) h86 hb).2
    refine GL.callP g.good .nil rfl rfl rfl rfl rfl rfl Try.func7 rfl rfl hS85.lo (f_impl_ReadState_k  g hS93 h95 hx102) (fun v n103 H104 hn105 hk106 hp107 => ?_)
    obtain ⟨a112, cap113, a115, cap116, hS118, rfl, h114, h117, ap119⟩ := hp107
    have ho120 := (hk106 _ (by have := lt54; omega)).trans ho81
    have h121 := OW.keep (n' := n103) h82 (by omega) (fun i hi => hk106 i (OW.id_lt h82 hi).2)
    have h122 := OW.keep (n' := n103) h83 (by omega) (fun i hi => hk106 i (OW.id_lt h83 hi).2)
    have h123 := OW.keep (n' := n103) h84 (by omega) (fun i hi => hk106 i (OW.id_lt h84 hi).2)
    have h124 := OW.keep (n' := n103) h86 (by omega) (fun i hi => hk106 i (OW.id_lt h86 hi).2)
    have hS125 : St n0 n103 H104 F0 := ⟨by have := hS85.lo; omega, hS118.hb, fun i o hi => (hk106 i (hS85.lt (hS85.fh i o hi))).trans (hS85.fh i o hi)⟩
    have hlon103 := hS125.lo
    have h126 := OW.lower (lo' := n0) (OW.downFl hle94 h114) (by omega)
    have ap128 : idOf (.slice a112 x102.1.Files.length cap113) ≠ some n27 := fun hj => by have := (OW.id_lt h114 hj).1; have := lt54; omega
    have ap129 : ∀ b, idOf (.slice a112 x102.1.Files.length cap113) = some b → idOf (.slice a13 x7.length cap14) ≠ some b := fun b hj hi => by have := (OW.id_lt h114 hj).1; have := hb108 b hi; omega
    have ap130 : ∀ b, idOf (.slice a112 x102.1.Files.length cap113) = some b → idOf (.slice a33 x26.1.Files.length cap34) ≠ some b := fun b hj hi => by have := (OW.id_lt h114 hj).1; have := hb109 b hi; omega
    have ap131 : ∀ b, idOf (.slice a112 x102.1.Files.length cap113) = some b → idOf (.slice a36 x26.1.Sessions.length cap37) ≠ some b := fun b hj hi => by have := (OW.id_lt h114 hj).1; have := hb110 b hi; omega
    have ap132 : ∀ b, idOf (.slice a112 x102.1.Files.length cap113) = some b → idOf (.slice a77 x68.length cap78) ≠ some b := fun b hj hi => by have := (OW.id_lt h114 hj).1; have := hb111 b hi; omega
    have h133 := OW.lower (lo' := n0) (OW.downFl hle94 h117) (by omega)
    have ap135 : idOf (.slice a115 x102.1.Sessions.length cap116) ≠ some n27 := fun hj => by have := (OW.id_lt h117 hj).1; have := lt54; omega
    have ap136 : ∀ b, idOf (.slice a115 x102.1.Sessions.length cap116) = some b → idOf (.slice a13 x7.length cap14) ≠ some b := fun b hj hi => by have := (OW.id_lt h117 hj).1; have := hb108 b hi; omega
    have ap137 : ∀ b, idOf (.slice a115 x102.1.Sessions.length cap116) = some b → idOf (.slice a33 x26.1.Files.length cap34) ≠ some b := fun b hj hi => by have := (OW.id_lt h117 hj).1; have := hb109 b hi; omega
    have ap138 : ∀ b, idOf (.slice a115 x102.1.Sessions.length cap116) = some b → idOf (.slice a36 x26.1.Sessions.length cap37) ≠ some b := fun b hj hi => by have := (OW.id_lt h117 hj).1; have := hb110 b hi; omega
    have ap139 : ∀ b, idOf (.slice a115 x102.1.Sessions.length cap116) = some b → idOf (.slice a77 x68.length cap78) ≠ some b := fun b hj hi => by have := (OW.id_lt h117 hj).1; have := hb111 b hi; omega
    refine WL.move .nil rfl rfl rfl rfl ?_
    refine WL.extract .nil rfl rfl rfl rfl rfl ?_
    refine WL.extract .nil rfl rfl rfl rfl rfl ?_
    refine GL.alloc hS125 .nil (zc := [.slice none 0 0, .slice none 0 0]) rfl rfl rfl info26 rfl rfl rfl (fun H140 hS141 ho142 hk143 => ?_)
    have fo144 := hS125.fnone (Nat.le_refl _)
    have ap146 : idOf (.slice a13 x7.length cap14) ≠ some n103 := fun hj => by have := OW.id_lt h121 hj; omega
    have ap147 : idOf (.slice a33 x26.1.Files.length cap34) ≠ some n103 := fun hj => by have := OW.id_lt h122 hj; omega
    have ap148 : idOf (.slice a36 x26.1.Sessions.length cap37) ≠ some n103 := fun hj => by have := OW.id_lt h123 hj; omega
    have ap149 : idOf (.slice a77 x68.length cap78) ≠ some n103 := fun hj => by have := OW.id_lt h124 hj; omega
    have ap150 : idOf (.slice a112 x102.1.Files.length cap113) ≠ some n103 := fun hj => by have := OW.id_lt h126 hj; omega
    have ap151 : idOf (.slice a115 x102.1.Sessions.length cap116) ≠ some n103 := fun hj => by have := OW.id_lt h133 hj; omega
    have ho152 := (hk143 _ (by have := lt54; omega)).trans ho120
    have h153 := OW.keep (n' := (n103 + 1)) h121 (by omega) (fun i hi => hk143 i (OW.id_lt h121 hi).2)
    have h154 := OW.keep (n' := (n103 + 1)) h122 (by omega) (fun i hi => hk143 i (OW.id_lt h122 hi).2)
    have h155 := OW.keep (n' := (n103 + 1)) h123 (by omega) (fun i hi => hk143 i (OW.id_lt h123 hi).2)
    have h156 := OW.keep (n' := (n103 + 1)) h124 (by omega) (fun i hi => hk143 i (OW.id_lt h124 hi).2)
    have h157 := OW.keep (n' := (n103 + 1)) h126 (by omega) (fun i hi => hk143 i (OW.id_lt h126 hi).2)
    have h158 := OW.keep (n' := (n103 + 1)) h133 (by omega) (fun i hi => hk143 i (OW.id_lt h133 hi).2)
    have hlon1031 := hS141.lo
    have lt145 : n103 < (n103 + 1) := by omega
    refine GL.store hS141 .nil (vc := [.slice a112 x102.1.Files.length cap113, .slice a115 x102.1.Sessions.length cap116]) (c' := [.slice a112 x102.1.Files.length cap113, .slice a115 x102.1.Sessions.length cap116]) rfl rfl rfl info26 rfl rfl rfl rfl ho142 fo144 (Nat.le_of_ble_eq_true rfl) (by omega) (by repeat' (first | exact List.forall_mem_nil _ | refine List.forall_mem_cons.2 ⟨?_, ?_⟩ | rfl)) rfl (fun H159 hS160 ho161 hk162 => ?_)
    have ho163 := (hk162 _ (by omega)).trans ho152
    have h164 := OW.keep h153 (Nat.le_refl _) (fun i hi => hk162 i (fun hj => ap146 (hj ▸ hi)))
    have h165 := OW.keep h154 (Nat.le_refl _) (fun i hi => hk162 i (fun hj => ap147 (hj ▸ hi)))
    have h166 := OW.keep h155 (Nat.le_refl _) (fun i hi => hk162 i (fun hj => ap148 (hj ▸ hi)))
    have h167 := OW.keep h156 (Nat.le_refl _) (fun i hi => hk162 i (fun hj => ap149 (hj ▸ hi)))
    have h168 := OW.keep h157 (Nat.le_refl _) (fun i hi => hk162 i (fun hj => ap150 (hj ▸ hi)))
    have h169 := OW.keep h158 (Nat.le_refl _) (fun i hi => hk162 i (fun hj => ap151 (hj ▸ hi)))
    refine WL.assign .nil rfl rfl rfl rfl ?_
    with_reducible refine WL.nil ?_
    with_reducible refine Ex.thn_norm ?_
    with_reducible refine W.seq ?_
    with_reducible refine W.seq ?_
    refine W.cut (fun fr n H => ∃ (x246 : Bool) (F : Heap), fr = [(0, .slice a2 xs1.length cap3), (3, .pointer (some ⟨n27, 0, none⟩)), (4, .int .i64 x26.2), (5, .slice a77 x68.length cap78), (6, .pointer (some ⟨n103, 0, none⟩)), (7, .int .i64 x102.2), (37, .bool x246)] ∧ St n0 n H F ∧ Ext n0 F0 n F ∧ H n103 = some (.row 1 [.slice a112 x102.1.Files.length cap113, .slice a115 x102.1.Sessions.length cap116]) ∧ F n103 = none ∧ H n27 = some (.row 1 [.slice a33 x26.1.Files.length cap34, .slice a36 x26.1.Sessions.length cap37]) ∧ F n27 = none ∧ SR F (.slice a2 xs1.length cap3) xs1 ∧ OW n0 n H F (.slice a77 x68.length cap78) x68 ∧ OW n0 n H F (.slice a112 x102.1.Files.length cap113) x102.1.Files ∧ OW n0 n H F (.slice a115 x102.1.Sessions.length cap116) x102.1.Sessions ∧ OW n0 n H F (.slice a33 x26.1.Files.length cap34) x26.1.Files ∧ OW n0 n H F (.slice a36 x26.1.Sessions.length cap37) x26.1.Sessions ∧ idOf (.slice a77 x68.length cap78) ≠ some n103 ∧ idOf (.slice a77 x68.length cap78) ≠ some n27 ∧ idOf (.slice a112 x102.1.Files.length cap113) ≠ some n103 ∧ idOf (.slice a112 x102.1.Files.length cap113) ≠ some n27 ∧ (∀ b, idOf (.slice a112 x102.1.Files.length cap113) = some b → idOf (.slice a77 x68.length cap78) ≠ some b) ∧ idOf (.slice a115 x102.1.Sessions.length cap116) ≠ some n103 ∧ idOf (.slice a115 x102.1.Sessions.length cap116) ≠ some n27 ∧ (∀ b, idOf (.slice a115 x102.1.Sessions.length cap116) = some b → idOf (.slice a77 x68.length cap78) ≠ some b) ∧ (∀ b, idOf (.slice a115 x102.1.Sessions.length cap116) = some b → idOf (.slice a112 x102.1.Files.length cap113) ≠ some b) ∧ idOf (.slice a33 x26.1.Files.length cap34) ≠ some n103 ∧ idOf (.slice a33 x26.1.Files.length cap34) ≠ some n27 ∧ (∀ b, idOf (.slice a33 x26.1.Files.length cap34) = some b → idOf (.slice a77 x68.length cap78) ≠ some b) ∧ (∀ b, idOf (.slice a33 x26.1.Files.length cap34) = some b → idOf (.slice a112 x102.1.Files.length cap113) ≠ some b) ∧ (∀ b, idOf (.slice a33 x26.1.Files.length cap34) = some b → idOf (.slice a115 x102.1.Sessions.length cap116) ≠ some b) ∧ idOf (.slice a36 x26.1.Sessions.length cap37) ≠ some n103 ∧ idOf (.slice a36 x26.1.Sessions.length cap37) ≠ some n27 ∧ (∀ b, idOf (.slice a36 x26.1.Sessions.length cap37) = some b → idOf (.slice a77 x68.length cap78) ≠ some b) ∧ (∀ b, idOf (.slice a36 x26.1.Sessions.length cap37) = some b → idOf (.slice a112 x102.1.Files.length cap113) ≠ some b) ∧ (∀ b, idOf (.slice a36 x26.1.Sessions.length cap37) = some b → idOf (.slice a115 x102.1.Sessions.length cap116) ≠ some b) ∧ (∀ b, idOf (.slice a36 x26.1.Sessions.length cap37) = some b → idOf (.slice a33 x26.1.Files.length cap34) ≠ some b) ∧ f_laws_FnExactReadState_J0 xs1 x68 x102 x26 x246 = some res) ?_ ?_
    · with_reducible refine W.region ?_
      refine WL.loadN .nil (l' := [.slice a112 x102.1.Files.length cap113, .slice a115 x102.1.Sessions.length cap116]) rfl rfl rfl Try.underlying26 rfl info26 rfl ho161 rfl rfl ?_
      refine WL.loadN .nil (l' := [.slice a33 x26.1.Files.length cap34, .slice a36 x26.1.Sessions.length cap37]) rfl rfl rfl Try.underlying26 rfl info26 rfl ho163 rfl rfl ?_
      obtain ⟨F1055, hS1056, hle1057, h1058, hf1059⟩ := OW.freeze h168 hS160
      have fo1060 := (hf1059 _ ap128).trans fo53
      have fo1061 := (hf1059 _ ap150).trans fo144
      have h1062 := OW.keepF h164 hle1057 (fun i hi => (hf1059 i (fun hj => ap129 i hj hi)).trans (OW.fnone h164 hi))
      have h1063 := OW.keepF h165 hle1057 (fun i hi => (hf1059 i (fun hj => ap130 i hj hi)).trans (OW.fnone h165 hi))
      have h1064 := OW.keepF h166 hle1057 (fun i hi => (hf1059 i (fun hj => ap131 i hj hi)).trans (OW.fnone h166 hi))
      have h1065 := OW.keepF h167 hle1057 (fun i hi => (hf1059 i (fun hj => ap132 i hj hi)).trans (OW.fnone h167 hi))
      have h1066 := OW.keepF h169 hle1057 (fun i hi => (hf1059 i (fun hj => (fun b h1 h2 => ap119 b h2 h1) i hj hi)).trans (OW.fnone h169 hi))
      obtain ⟨F1068, hS1069, hle1070, h1071, hf1072⟩ := OW.freeze h1066 hS1056
      have fo1073 := (hf1072 _ ap135).trans fo1060
      have fo1074 := (hf1072 _ ap151).trans fo1061
      have h1075 := OW.keepF h1062 hle1070 (fun i hi => (hf1072 i (fun hj => ap136 i hj hi)).trans (OW.fnone h1062 hi))
      have h1076 := OW.keepF h1063 hle1070 (fun i hi => (hf1072 i (fun hj => ap137 i hj hi)).trans (OW.fnone h1063 hi))
      have h1077 := OW.keepF h1064 hle1070 (fun i hi => (hf1072 i (fun hj => ap138 i hj hi)).trans (OW.fnone h1064 hi))
      have h1078 := OW.keepF h1065 hle1070 (fun i hi => (hf1072 i (fun hj => ap139 i hj hi)).trans (OW.fnone h1065 hi))
      obtain ⟨F1080, hS1081, hle1082, h1083, hf1084⟩ := OW.freeze h1076 hS1069
      have fo1085 := (hf1084 _ ap56).trans fo1073
      have fo1086 := (hf1084 _ ap147).trans fo1074
      have h1087 := OW.keepF h1075 hle1082 (fun i hi => (hf1084 i (fun hj => ap45 i hj hi)).trans (OW.fnone h1075 hi))
      have h1088 := OW.keepF h1077 hle1082 (fun i hi => (hf1084 i (fun hj => (fun b h1 h2 => ap40 b h2 h1) i hj hi)).trans (OW.fnone h1077 hi))
      have h1089 := OW.keepF h1078 hle1082 (fun i hi => (hf1084 i (fun hj => (fun b h1 h2 => ap90 b h2 h1) i hj hi)).trans (OW.fnone h1078 hi))
      obtain ⟨F1091, hS1092, hle1093, h1094, hf1095⟩ := OW.freeze h1088 hS1081
      have fo1096 := (hf1095 _ ap57).trans fo1085
      have fo1097 := (hf1095 _ ap148).trans fo1086
      have h1098 := OW.keepF h1087 hle1093 (fun i hi => (hf1095 i (fun hj => ap48 i hj hi)).trans (OW.fnone h1087 hi))
      have h1099 := OW.keepF h1089 hle1093 (fun i hi => (hf1095 i (fun hj => (fun b h1 h2 => ap91 b h2 h1) i hj hi)).trans (OW.fnone h1089 hi))
      obtain ⟨x1101, hx1101, hr⟩ := bnd_some hr
      have hb1107 := fun b hb => (OW.id_lt (i := b) h164 hb).2
      have hb1108 := fun b hb => (OW.id_lt (i := b) h165 hb).2
      have hb1109 := fun b hb => (OW.id_lt (i := b) h166 hb).2
      have hb1110 := fun b hb => (OW.id_lt (i := b) h167 hb).2
      have hb1111 := fun b hb => (OW.id_lt (i := b) h168 hb).2
      have hb1112 := fun b hb => (OW.id_lt (i := b) h169 hb).2
      refine GL.callP g.good .nil rfl rfl rfl rfl rfl rfl Try.func8 rfl rfl hS160.lo (f_laws_eqState_k  g hS1092 (((h1058.mono hle1070).mono hle1082).mono hle1093) ((h1071.mono hle1082).mono hle1093) (h1083.mono hle1093) h1094 hx1101) (fun v n1102 H1103 hn1104 hk1105 hp1106 => ?_)
      obtain ⟨hS1113, rfl⟩ := hp1106
      have ho1114 := (hk1105 _ (by have := lt54; omega)).trans ho163
      have ho1115 := (hk1105 _ (by have := lt145; omega)).trans ho161
      have h1116 := OW.keep (n' := n1102) h164 (by omega) (fun i hi => hk1105 i (OW.id_lt h164 hi).2)
      have h1117 := OW.keep (n' := n1102) h165 (by omega) (fun i hi => hk1105 i (OW.id_lt h165 hi).2)
      have h1118 := OW.keep (n' := n1102) h166 (by omega) (fun i hi => hk1105 i (OW.id_lt h166 hi).2)
      have h1119 := OW.keep (n' := n1102) h167 (by omega) (fun i hi => hk1105 i (OW.id_lt h167 hi).2)
      have h1120 := OW.keep (n' := n1102) h168 (by omega) (fun i hi => hk1105 i (OW.id_lt h168 hi).2)
      have h1121 := OW.keep (n' := n1102) h169 (by omega) (fun i hi => hk1105 i (OW.id_lt h169 hi).2)
      have hS1122 : St n0 n1102 H1103 F0 := ⟨by have := hS160.lo; omega, hS1113.hb, fun i o hi => (hk1105 i (hS160.lt (hS160.fh i o hi))).trans (hS160.fh i o hi)⟩
      have hlon1102 := hS1122.lo
      refine WL.not .nil rfl rfl rfl rfl ?_
      refine WL.move .nil rfl rfl rfl rfl ?_
      refine WL.guard rfl rfl rfl (fun hg1123 => ?_) (fun hg1123 => ?_)
      · replace hr := iteB_pos hr hg1123
        refine WL.skip .nil rfl rfl ?_
        refine WL.skip .nil rfl rfl ?_
        refine WL.skip .nil rfl rfl ?_
        refine WL.pick .nil rfl rfl rfl rfl rfl ?_
        with_reducible refine WL.nil ?_
        with_reducible refine Ex.thn_norm ?_
        exact ⟨[(0, .slice a2 xs1.length cap3), (3, .pointer (some ⟨n27, 0, none⟩)), (4, .int .i64 x26.2), (5, .slice a77 x68.length cap78), (6, .pointer (some ⟨n103, 0, none⟩)), (7, .int .i64 x102.2), (37, .bool true)], (Fr.le_cons rfl (Fr.le_cons rfl (Fr.le_cons rfl (Fr.le_cons rfl (Fr.le_cons rfl (Fr.le_cons rfl (Fr.le_cons rfl Fr.le_nil))))))), true, F0, rfl, hS1122, (hE0.up (by omega)), ho1115, fo144, ho1114, fo53, h4, h1119, h1120, h1121, h1117, h1118, ap149, ap88, ap150, ap128, ap132, ap151, ap135, ap139, ap119, ap147, ap56, (fun b h1 h2 => ap90 b h2 h1), (fun b h1 h2 => ap130 b h2 h1), (fun b h1 h2 => ap137 b h2 h1), ap148, ap57, (fun b h1 h2 => ap91 b h2 h1), (fun b h1 h2 => ap131 b h2 h1), (fun b h1 h2 => ap138 b h2 h1), ap40, hr⟩
      · replace hr := iteB_neg hr hg1123
        refine WL.move .nil rfl rfl rfl rfl ?_
        refine WL.move .nil rfl rfl rfl rfl ?_
        refine WL.bin .nil rfl rfl rfl rfl rfl rfl ?_
        refine WL.pick .nil rfl rfl rfl rfl rfl ?_
        with_reducible refine WL.nil ?_
        with_reducible refine Ex.thn_norm ?_
        exact ⟨[(0, .slice a2 xs1.length cap3), (3, .pointer (some ⟨n27, 0, none⟩)), (4, .int .i64 x26.2), (5, .slice a77 x68.length cap78), (6, .pointer (some ⟨n103, 0, none⟩)), (7, .int .i64 x102.2), (37, .bool (!decide (x102.2 = x26.2)))], (Fr.le_cons rfl (Fr.le_cons rfl (Fr.le_cons rfl (Fr.le_cons rfl (Fr.le_cons rfl (Fr.le_cons rfl (Fr.le_cons rfl Fr.le_nil))))))), (!decide (x102.2 = x26.2)), F0, rfl, hS1122, (hE0.up (by omega)), ho1115, fo144, ho1114, fo53, h4, h1119, h1120, h1121, h1117, h1118, ap149, ap88, ap150, ap128, ap132, ap151, ap135, ap139, ap119, ap147, ap56, (fun b h1 h2 => ap90 b h2 h1), (fun b h1 h2 => ap130 b h2 h1), (fun b h1 h2 => ap137 b h2 h1), ap148, ap57, (fun b h1 h2 => ap91 b h2 h1), (fun b h1 h2 => ap131 b h2 h1), (fun b h1 h2 => ap138 b h2 h1), ap40, hr⟩
    · intro _ n239 H240 hI
      obtain ⟨x246, F241, rfl, hS242, hE243, ho249, fo250, ho253, fo254, h244, h245, h247, h248, h251, h252, ap255, ap256, ap257, ap258, ap259, ap260, ap261, ap262, ap263, ap264, ap265, ap266, ap267, ap268, ap269, ap270, ap271, ap272, ap273, ap274, hr⟩ := hI
      have lt275 := hS242.lt ho249
      have lt276 := hS242.lt ho253
      have hlen239 := hE243.le
      have hlon239 := hS242.lo
      unfold f_laws_FnExactReadState_J0 at hr
      refine W.cond rfl (fun hc278 => ?_) (fun hc278 => ?_)
      · replace hr := iteB_pos hr hc278
        with_reducible refine W.seq ?_
        with_reducible refine W.region ?_
        refine WL.assign .nil rfl rfl rfl rfl ?_
        with_reducible refine WL.nil ?_
        with_reducible refine Ex.thn_norm ?_
        with_reducible refine W.ret ?_
        with_reducible refine Ex.thn_ret ?_
        obtain rfl := Option.some.inj hr
        exact ⟨.inr rfl, _, (.cons (.tmp rfl) .nil), ⟨(Ext.st hE243 hS242), rfl⟩⟩
      · replace hr := iteB_neg hr hc278
        with_reducible refine W.skip ?_
        with_reducible refine Ex.thn_norm ?_
        with_reducible refine W.seq ?_
        with_reducible refine W.seq ?_
        with_reducible refine W.region ?_
        refine WL.move .nil rfl rfl rfl rfl ?_
        refine WL.move .nil rfl rfl rfl rfl ?_
        obtain ⟨x279, hx279, hr⟩ := bnd_some hr
        have hb285 := fun b hb => (OW.id_lt (i := b) h245 hb).2
        have hb286 := fun b hb => (OW.id_lt (i := b) h247 hb).2
        have hb287 := fun b hb => (OW.id_lt (i := b) h248 hb).2
        have hb288 := fun b hb => (OW.id_lt (i := b) h251 hb).2
        have hb289 := fun b hb => (OW.id_lt (i := b) h252 hb).2
        refine GL.callP g.good .nil rfl rfl rfl rfl rfl rfl Try.func6 rfl rfl hS242.lo (f_laws_toByteS_k  g hS242 h244 hx279) (fun v n280 H281 hn282 hk283 hp284 => ?_)
        obtain ⟨a290, cap291, hS293, rfl, h292⟩ := hp284
        have ho294 := (hk283 _ (by have := lt275; omega)).trans ho249
        have ho295 := (hk283 _ (by have := lt276; omega)).trans ho253
        have h296 := OW.keep (n' := n280) h245 (by omega) (fun i hi => hk283 i (OW.id_lt h245 hi).2)
        have h297 := OW.keep (n' := n280) h247 (by omega) (fun i hi => hk283 i (OW.id_lt h247 hi).2)
        have h298 := OW.keep (n' := n280) h248 (by omega) (fun i hi => hk283 i (OW.id_lt h248 hi).2)
        have h299 := OW.keep (n' := n280) h251 (by omega) (fun i hi => hk283 i (OW.id_lt h251 hi).2)
        have h300 := OW.keep (n' := n280) h252 (by omega) (fun i hi => hk283 i (OW.id_lt h252 hi).2)
        have hS301 : St n0 n280 H281 F241 := ⟨by have := hS242.lo; omega, hS293.hb, hS293.fh⟩
        have hlon280 := hS301.lo
        have h302 := OW.lower (lo' := n0) h292 (by omega)
        have ap304 : idOf (.slice a290 x279.length cap291) ≠ some n103 := fun hj => by have := (OW.id_lt h292 hj).1; have := lt275; omega
        have ap305 : idOf (.slice a290 x279.length cap291) ≠ some n27 := fun hj => by have := (OW.id_lt h292 hj).1; have := lt276; omega
        have ap306 : ∀ b, idOf (.slice a290 x279.length cap291) = some b → idOf (.slice a77 x68.length cap78) ≠ some b := fun b hj hi => by have := (OW.id_lt h292 hj).1; have := hb285 b hi; omega
        have ap307 : ∀ b, idOf (.slice a290 x279.length cap291) = some b → idOf (.slice a112 x102.1.Files.length cap113) ≠ some b := fun b hj hi => by have := (OW.id_lt h292 hj).1; have := hb286 b hi; omega
        have ap308 : ∀ b, idOf (.slice a290 x279.length cap291) = some b → idOf (.slice a115 x102.1.Sessions.length cap116) ≠ some b := fun b hj hi => by have := (OW.id_lt h292 hj).1; have := hb287 b hi; omega
        have ap309 : ∀ b, idOf (.slice a290 x279.length cap291) = some b → idOf (.slice a33 x26.1.Files.length cap34) ≠ some b := fun b hj hi => by have := (OW.id_lt h292 hj).1; have := hb288 b hi; omega
        have ap310 : ∀ b, idOf (.slice a290 x279.length cap291) = some b → idOf (.slice a36 x26.1.Sessions.length cap37) ≠ some b := fun b hj hi => by have := (OW.id_lt h292 hj).1; have := hb289 b hi; omega
        obtain ⟨F311, hS312, hle313, h314, hf315⟩ := OW.freeze h296 hS301
        have fo316 := (hf315 _ ap255).trans fo250
        have fo317 := (hf315 _ ap256).trans fo254
        have h318 := OW.keepF h297 hle313 (fun i hi => (hf315 i (fun hj => (fun b h1 h2 => ap259 b h2 h1) i hj hi)).trans (OW.fnone h297 hi))
        have h319 := OW.keepF h298 hle313 (fun i hi => (hf315 i (fun hj => (fun b h1 h2 => ap262 b h2 h1) i hj hi)).trans (OW.fnone h298 hi))
        have h320 := OW.keepF h299 hle313 (fun i hi => (hf315 i (fun hj => (fun b h1 h2 => ap266 b h2 h1) i hj hi)).trans (OW.fnone h299 hi))
        have h321 := OW.keepF h300 hle313 (fun i hi => (hf315 i (fun hj => (fun b h1 h2 => ap271 b h2 h1) i hj hi)).trans (OW.fnone h300 hi))
        have h322 := OW.keepF h302 hle313 (fun i hi => (hf315 i (fun hj => (fun b h1 h2 => ap306 b h2 h1) i hj hi)).trans (OW.fnone h302 hi))
        obtain ⟨F324, hS325, hle326, h327, hf328⟩ := OW.freeze h322 hS312
        have fo329 := (hf328 _ ap304).trans fo316
        have fo330 := (hf328 _ ap305).trans fo317
        have h331 := OW.keepF h318 hle326 (fun i hi => (hf328 i (fun hj => ap307 i hj hi)).trans (OW.fnone h318 hi))
        have h332 := OW.keepF h319 hle326 (fun i hi => (hf328 i (fun hj => ap308 i hj hi)).trans (OW.fnone h319 hi))
        have h333 := OW.keepF h320 hle326 (fun i hi => (hf328 i (fun hj => ap309 i hj hi)).trans (OW.fnone h320 hi))
        have h334 := OW.keepF h321 hle326 (fun i hi => (hf328 i (fun hj => ap310 i hj hi)).trans (OW.fnone h321 hi))
        obtain ⟨x336, hx336, hr⟩ := bnd_some hr
        have hb342 := fun b hb => (OW.id_lt (i := b) h296 hb).2
        have hb343 := fun b hb => (OW.id_lt (i := b) h297 hb).2
        have hb344 := fun b hb => (OW.id_lt (i := b) h298 hb).2
        have hb345 := fun b hb => (OW.id_lt (i := b) h299 hb).2
        have hb346 := fun b hb => (OW.id_lt (i := b) h300 hb).2
        have hb347 := fun b hb => (OW.id_lt (i := b) h302 hb).2
        refine GL.callP g.good .nil rfl rfl rfl rfl rfl rfl Try.func9 rfl rfl hS301.lo (f_laws_eqByteS_k  g hS325 (h314.mono hle326) h327 hx336) (fun v n337 H338 hn339 hk340 hp341 => ?_)
        obtain ⟨hS348, rfl⟩ := hp341
        have ho349 := (hk340 _ (by have := lt275; omega)).trans ho294
        have ho350 := (hk340 _ (by have := lt276; omega)).trans ho295
        have h351 := OW.keep (n' := n337) h296 (by omega) (fun i hi => hk340 i (OW.id_lt h296 hi).2)
        have h352 := OW.keep (n' := n337) h297 (by omega) (fun i hi => hk340 i (OW.id_lt h297 hi).2)
        have h353 := OW.keep (n' := n337) h298 (by omega) (fun i hi => hk340 i (OW.id_lt h298 hi).2)
        have h354 := OW.keep (n' := n337) h299 (by omega) (fun i hi => hk340 i (OW.id_lt h299 hi).2)
        have h355 := OW.keep (n' := n337) h300 (by omega) (fun i hi => hk340 i (OW.id_lt h300 hi).2)
        have h356 := OW.keep (n' := n337) h302 (by omega) (fun i hi => hk340 i (OW.id_lt h302 hi).2)
        have hS357 : St n0 n337 H338 F241 := ⟨by have := hS301.lo; omega, hS348.hb, fun i o hi => (hk340 i (hS301.lt (hS301.fh i o hi))).trans (hS301.fh i o hi)⟩
        have hlon337 := hS357.lo
        refine WL.not .nil rfl rfl rfl rfl ?_
        with_reducible refine WL.nil ?_
        with_reducible refine Ex.thn_norm ?_
        refine W.cond rfl (fun hc359 => ?_) (fun hc359 => ?_)
        · replace hr := iteB_pos hr hc359
          with_reducible refine W.seq ?_
          with_reducible refine W.region ?_
          refine WL.assign .nil rfl rfl rfl rfl ?_
          with_reducible refine WL.nil ?_
          with_reducible refine Ex.thn_norm ?_
          with_reducible refine W.ret ?_
          with_reducible refine Ex.thn_ret ?_
          obtain rfl := Option.some.inj hr
          exact ⟨.inr rfl, _, (.cons (.tmp rfl) .nil), ⟨(Ext.st hE243 hS357), rfl⟩⟩
        · replace hr := iteB_neg hr hc359
          with_reducible refine W.skip ?_
          with_reducible refine Ex.thn_norm ?_
          with_reducible refine W.seq ?_
          with_reducible refine W.region ?_
          refine WL.assign .nil rfl rfl rfl rfl ?_
          with_reducible refine WL.nil ?_
          with_reducible refine Ex.thn_norm ?_
          with_reducible refine W.seq ?_
          with_reducible refine W.region ?_
          refine WL.move .nil rfl rfl rfl rfl ?_
          refine WL.move .nil rfl rfl rfl rfl ?_
          obtain ⟨x360, hx360, hr⟩ := bnd_some hr
          have hb370 := fun b hb => (OW.id_lt (i := b) h351 hb).2
          have hb371 := fun b hb => (OW.id_lt (i := b) h352 hb).2
          have hb372 := fun b hb => (OW.id_lt (i := b) h353 hb).2
          have hb373 := fun b hb => (OW.id_lt (i := b) h354 hb).2
          have hb374 := fun b hb => (OW.id_lt (i := b) h355 hb).2
          have hb375 := fun b hb => (OW.id_lt (i := b) h356 hb).2
          refine GL.callIO g .nil (fun i => (F241 i).isSome = true ∨ idOf (.slice a77 x68.length cap78) = some i) rfl rfl rfl rfl rfl rfl Try.func10 rfl rfl (Nat.le_refl _) hS357.lo (f_laws_markByteS_k  g (St.vis hS357 (fun i hi => .inl hi)) (OW.vis h351 (fun i hi => (.inr (hi)))) hx360) (fun v n361 H362 H363 hn364 hp365 hle366 hnew367 hk368 hd369 => ?_)
          obtain ⟨F378, hX379, hS377, h376, hl380, rfl⟩ := hp365
          have hS381 : St n0 n361 H362 _ := ⟨hS377.lo, fun i hi => (hnew367 i (by omega)).trans (hS377.hb i hi), hS377.fh.trans hle366⟩
          have ho382 := (hk368 _ (by have := lt275; omega) (fun hs => by
      rcases hs with h | h
      · rw [fo250] at h; cases h
      · exact ap255 h)).trans ho349
          have ho383 := (hk368 _ (by have := lt276; omega) (fun hs => by
      rcases hs with h | h
      · rw [fo254] at h; cases h
      · exact ap256 h)).trans ho350
          have h384 := OW.keep (n' := n361) h352 (by omega) (fun i hi => hk368 i (OW.id_lt h352 hi).2 (fun hs => by
      rcases hs with h | h
      · rw [(OW.fnone h352 hi)] at h; cases h
      · exact (fun b h1 h2 => ap259 b h2 h1) _ h hi))
          have h385 := OW.keep (n' := n361) h353 (by omega) (fun i hi => hk368 i (OW.id_lt h353 hi).2 (fun hs => by
      rcases hs with h | h
      · rw [(OW.fnone h353 hi)] at h; cases h
      · exact (fun b h1 h2 => ap262 b h2 h1) _ h hi))
          have h386 := OW.keep (n' := n361) h354 (by omega) (fun i hi => hk368 i (OW.id_lt h354 hi).2 (fun hs => by
      rcases hs with h | h
      · rw [(OW.fnone h354 hi)] at h; cases h
      · exact (fun b h1 h2 => ap266 b h2 h1) _ h hi))
          have h387 := OW.keep (n' := n361) h355 (by omega) (fun i hi => hk368 i (OW.id_lt h355 hi).2 (fun hs => by
      rcases hs with h | h
      · rw [(OW.fnone h355 hi)] at h; cases h
      · exact (fun b h1 h2 => ap271 b h2 h1) _ h hi))
          have h388 := OW.keep (n' := n361) h356 (by omega) (fun i hi => hk368 i (OW.id_lt h356 hi).2 (fun hs => by
      rcases hs with h | h
      · rw [(OW.fnone h356 hi)] at h; cases h
      · exact (fun b h1 h2 => ap306 b h2 h1) _ h hi))
          have fo389 := (hX379.eq _ (by have := lt275; omega)).trans fo250
          have fo390 := (hX379.eq _ (by have := lt276; omega)).trans fo254
          have h391 := OW.keepF h384 hX379.sub (fun i hi => (hX379.eq i (by have := hb371 i hi; omega)).trans (OW.fnone h384 hi))
          have h392 := OW.keepF h385 hX379.sub (fun i hi => (hX379.eq i (by have := hb372 i hi; omega)).trans (OW.fnone h385 hi))
          have h393 := OW.keepF h386 hX379.sub (fun i hi => (hX379.eq i (by have := hb373 i hi; omega)).trans (OW.fnone h386 hi))
          have h394 := OW.keepF h387 hX379.sub (fun i hi => (hX379.eq i (by have := hb374 i hi; omega)).trans (OW.fnone h387 hi))
          have h395 := OW.keepF h388 hX379.sub (fun i hi => (hX379.eq i (by have := hb375 i hi; omega)).trans (OW.fnone h388 hi))
          have hE396 := (hE243.up (n' := n337) (by omega)).trans hX379
          have h397 := OW.le h376 hle366
          have hlon361 := hS381.lo
          have lt398 := hS381.lt ho382
          have lt399 := hS381.lt ho383
          refine WL.assign .nil rfl rfl rfl rfl ?_
          with_reducible refine WL.nil ?_
          with_reducible refine Ex.thn_norm ?_
          with_reducible refine W.seq ?_
          with_reducible refine W.seq ?_
          refine W.cut (fun fr n H => ∃ (x476 : Bool) (F : Heap), fr = [(0, .slice a2 xs1.length cap3), (3, .pointer (some ⟨n27, 0, none⟩)), (4, .int .i64 x26.2), (6, .pointer (some ⟨n103, 0, none⟩)), (58, .bool x476)] ∧ St n0 n H F ∧ Ext n0 F0 n F ∧ H n103 = some (.row 1 [.slice a112 x102.1.Files.length cap113, .slice a115 x102.1.Sessions.length cap116]) ∧ F n103 = none ∧ H n27 = some (.row 1 [.slice a33 x26.1.Files.length cap34, .slice a36 x26.1.Sessions.length cap37]) ∧ F n27 = none ∧ SR F (.slice a2 xs1.length cap3) xs1 ∧ OW n0 n H F (.slice a112 x102.1.Files.length cap113) x102.1.Files ∧ OW n0 n H F (.slice a115 x102.1.Sessions.length cap116) x102.1.Sessions ∧ OW n0 n H F (.slice a33 x26.1.Files.length cap34) x26.1.Files ∧ OW n0 n H F (.slice a36 x26.1.Sessions.length cap37) x26.1.Sessions ∧ idOf (.slice a112 x102.1.Files.length cap113) ≠ some n103 ∧ idOf (.slice a112 x102.1.Files.length cap113) ≠ some n27 ∧ idOf (.slice a115 x102.1.Sessions.length cap116) ≠ some n103 ∧ idOf (.slice a115 x102.1.Sessions.length cap116) ≠ some n27 ∧ (∀ b, idOf (.slice a115 x102.1.Sessions.length cap116) = some b → idOf (.slice a112 x102.1.Files.length cap113) ≠ some b) ∧ idOf (.slice a33 x26.1.Files.length cap34) ≠ some n103 ∧ idOf (.slice a33 x26.1.Files.length cap34) ≠ some n27 ∧ (∀ b, idOf (.slice a33 x26.1.Files.length cap34) = some b → idOf (.slice a112 x102.1.Files.length cap113) ≠ some b) ∧ (∀ b, idOf (.slice a33 x26.1.Files.length cap34) = some b → idOf (.slice a115 x102.1.Sessions.length cap116) ≠ some b) ∧ idOf (.slice a36 x26.1.Sessions.length cap37) ≠ some n103 ∧ idOf (.slice a36 x26.1.Sessions.length cap37) ≠ some n27 ∧ (∀ b, idOf (.slice a36 x26.1.Sessions.length cap37) = some b → idOf (.slice a112 x102.1.Files.length cap113) ≠ some b) ∧ (∀ b, idOf (.slice a36 x26.1.Sessions.length cap37) = some b → idOf (.slice a115 x102.1.Sessions.length cap116) ≠ some b) ∧ (∀ b, idOf (.slice a36 x26.1.Sessions.length cap37) = some b → idOf (.slice a33 x26.1.Files.length cap34) ≠ some b) ∧ f_laws_FnExactReadState_J1 x102 xs1 x26 x476 = some res) ?_ ?_
          · with_reducible refine W.region ?_
            refine WL.move .nil rfl rfl rfl rfl ?_
            refine WL.bin .nil rfl rfl rfl rfl rfl rfl ?_
            refine WL.move .nil rfl rfl rfl rfl ?_
            refine WL.guardD rfl rfl rfl (fun hg985 => ?_) (fun hg985 => ?_)
            · replace hr := ite_pos hr hg985
              refine WL.skip .nil rfl rfl ?_
              refine WL.skip .nil rfl rfl ?_
              refine WL.skip .nil rfl rfl ?_
              refine WL.skip .nil rfl rfl ?_
              refine WL.pick .nil rfl rfl rfl rfl rfl ?_
              refine WL.move .nil rfl rfl rfl rfl ?_
              refine WL.skip .nil rfl rfl ?_
              refine WL.skip .nil rfl rfl ?_
              refine WL.skip .nil rfl rfl ?_
              refine WL.pick .nil rfl rfl rfl rfl rfl ?_
              with_reducible refine WL.nil ?_
              with_reducible refine Ex.thn_norm ?_
              exact ⟨[(0, .slice a2 xs1.length cap3), (3, .pointer (some ⟨n27, 0, none⟩)), (4, .int .i64 x26.2), (6, .pointer (some ⟨n103, 0, none⟩)), (58, .bool true)], (Fr.le_cons rfl (Fr.le_cons rfl (Fr.le_cons rfl (Fr.le_cons rfl (Fr.le_cons rfl Fr.le_nil))))), true, F378, rfl, hS381, hE396, ho382, fo389, ho383, fo390, (h244.mono hX379.sub), h391, h392, h393, h394, ap257, ap258, ap260, ap261, ap263, ap264, ap265, ap267, ap268, ap269, ap270, ap272, ap273, ap274, hr⟩
            · replace hr := ite_neg hr hg985
              refine WL.loadN .nil (l' := [.slice a112 x102.1.Files.length cap113, .slice a115 x102.1.Sessions.length cap116]) rfl rfl rfl Try.underlying26 rfl info26 rfl ho382 rfl rfl ?_
              refine WL.loadN .nil (l' := [.slice a33 x26.1.Files.length cap34, .slice a36 x26.1.Sessions.length cap37]) rfl rfl rfl Try.underlying26 rfl info26 rfl ho383 rfl rfl ?_
              obtain ⟨F986, hS987, hle988, h989, hf990⟩ := OW.freeze h391 hS381
              have fo991 := (hf990 _ ap257).trans fo389
              have fo992 := (hf990 _ ap258).trans fo390
              have h993 := OW.keepF h397 hle988 (fun i hi => (hf990 i (fun hj => ap259 i hj hi)).trans (OW.fnone h397 hi))
              have h994 := OW.keepF h392 hle988 (fun i hi => (hf990 i (fun hj => (fun b h1 h2 => ap263 b h2 h1) i hj hi)).trans (OW.fnone h392 hi))
              have h995 := OW.keepF h393 hle988 (fun i hi => (hf990 i (fun hj => (fun b h1 h2 => ap267 b h2 h1) i hj hi)).trans (OW.fnone h393 hi))
              have h996 := OW.keepF h394 hle988 (fun i hi => (hf990 i (fun hj => (fun b h1 h2 => ap272 b h2 h1) i hj hi)).trans (OW.fnone h394 hi))
              have h997 := OW.keepF h395 hle988 (fun i hi => (hf990 i (fun hj => (fun b h1 h2 => ap307 b h2 h1) i hj hi)).trans (OW.fnone h395 hi))
              obtain ⟨F999, hS1000, hle1001, h1002, hf1003⟩ := OW.freeze h994 hS987
              have fo1004 := (hf1003 _ ap260).trans fo991
              have fo1005 := (hf1003 _ ap261).trans fo992
              have h1006 := OW.keepF h993 hle1001 (fun i hi => (hf1003 i (fun hj => ap262 i hj hi)).trans (OW.fnone h993 hi))
              have h1007 := OW.keepF h995 hle1001 (fun i hi => (hf1003 i (fun hj => (fun b h1 h2 => ap268 b h2 h1) i hj hi)).trans (OW.fnone h995 hi))
              have h1008 := OW.keepF h996 hle1001 (fun i hi => (hf1003 i (fun hj => (fun b h1 h2 => ap273 b h2 h1) i hj hi)).trans (OW.fnone h996 hi))
              have h1009 := OW.keepF h997 hle1001 (fun i hi => (hf1003 i (fun hj => (fun b h1 h2 => ap308 b h2 h1) i hj hi)).trans (OW.fnone h997 hi))
              obtain ⟨F1011, hS1012, hle1013, h1014, hf1015⟩ := OW.freeze h1007 hS1000
              have fo1016 := (hf1015 _ ap264).trans fo1004
              have fo1017 := (hf1015 _ ap265).trans fo1005
              have h1018 := OW.keepF h1006 hle1013 (fun i hi => (hf1015 i (fun hj => ap266 i hj hi)).trans (OW.fnone h1006 hi))
              have h1019 := OW.keepF h1008 hle1013 (fun i hi => (hf1015 i (fun hj => (fun b h1 h2 => ap274 b h2 h1) i hj hi)).trans (OW.fnone h1008 hi))
              have h1020 := OW.keepF h1009 hle1013 (fun i hi => (hf1015 i (fun hj => (fun b h1 h2 => ap309 b h2 h1) i hj hi)).trans (OW.fnone h1009 hi))
              obtain ⟨F1022, hS1023, hle1024, h1025, hf1026⟩ := OW.freeze h1019 hS1012
              have fo1027 := (hf1026 _ ap269).trans fo1016
              have fo1028 := (hf1026 _ ap270).trans fo1017
              have h1029 := OW.keepF h1018 hle1024 (fun i hi => (hf1026 i (fun hj => ap271 i hj hi)).trans (OW.fnone h1018 hi))
              have h1030 := OW.keepF h1020 hle1024 (fun i hi => (hf1026 i (fun hj => (fun b h1 h2 => ap310 b h2 h1) i hj hi)).trans (OW.fnone h1020 hi))
              obtain ⟨x1032, hx1032, hr⟩ := bnd_some hr
              have hb1038 := fun b hb => (OW.id_lt (i := b) h397 hb).2
              have hb1039 := fun b hb => (OW.id_lt (i := b) h391 hb).2
              have hb1040 := fun b hb => (OW.id_lt (i := b) h392 hb).2
              have hb1041 := fun b hb => (OW.id_lt (i := b) h393 hb).2
              have hb1042 := fun b hb => (OW.id_lt (i := b) h394 hb).2
              have hb1043 := fun b hb => (OW.id_lt (i := b) h395 hb).2
              refine GL.callP g.good .nil rfl rfl rfl rfl rfl rfl Try.func8 rfl rfl hS381.lo (f_laws_eqState_k  g hS1023 (((h989.mono hle1001).mono hle1013).mono hle1024) ((h1002.mono hle1013).mono hle1024) (h1014.mono hle1024) h1025 hx1032) (fun v n1033 H1034 hn1035 hk1036 hp1037 => ?_)
              obtain ⟨hS1044, rfl⟩ := hp1037
              have ho1045 := (hk1036 _ (by have := lt398; omega)).trans ho382
              have ho1046 := (hk1036 _ (by have := lt399; omega)).trans ho383
              have h1047 := OW.keep (n' := n1033) h397 (by omega) (fun i hi => hk1036 i (OW.id_lt h397 hi).2)
              have h1048 := OW.keep (n' := n1033) h391 (by omega) (fun i hi => hk1036 i (OW.id_lt h391 hi).2)
              have h1049 := OW.keep (n' := n1033) h392 (by omega) (fun i hi => hk1036 i (OW.id_lt h392 hi).2)
              have h1050 := OW.keep (n' := n1033) h393 (by omega) (fun i hi => hk1036 i (OW.id_lt h393 hi).2)
              have h1051 := OW.keep (n' := n1033) h394 (by omega) (fun i hi => hk1036 i (OW.id_lt h394 hi).2)
              have h1052 := OW.keep (n' := n1033) h395 (by omega) (fun i hi => hk1036 i (OW.id_lt h395 hi).2)
              have hS1053 : St n0 n1033 H1034 F378 := ⟨by have := hS381.lo; omega, hS1044.hb, fun i o hi => (hk1036 i (hS381.lt (hS381.fh i o hi))).trans (hS381.fh i o hi)⟩
              have hlon1033 := hS1053.lo
              refine WL.not .nil rfl rfl rfl rfl ?_
              refine WL.pick .nil rfl rfl rfl rfl rfl ?_
              refine WL.move .nil rfl rfl rfl rfl ?_
              refine WL.guard rfl rfl rfl (fun hg1054 => ?_) (fun hg1054 => ?_)
              · replace hr := iteB_pos hr hg1054
                refine WL.skip .nil rfl rfl ?_
                refine WL.skip .nil rfl rfl ?_
                refine WL.skip .nil rfl rfl ?_
                refine WL.pick .nil rfl rfl rfl rfl rfl ?_
                with_reducible refine WL.nil ?_
                with_reducible refine Ex.thn_norm ?_
                exact ⟨[(0, .slice a2 xs1.length cap3), (3, .pointer (some ⟨n27, 0, none⟩)), (4, .int .i64 x26.2), (6, .pointer (some ⟨n103, 0, none⟩)), (58, .bool true)], (Fr.le_cons rfl (Fr.le_cons rfl (Fr.le_cons rfl (Fr.le_cons rfl (Fr.le_cons rfl Fr.le_nil))))), true, F378, rfl, hS1053, (hE396.up (by omega)), ho1045, fo389, ho1046, fo390, (h244.mono hX379.sub), h1048, h1049, h1050, h1051, ap257, ap258, ap260, ap261, ap263, ap264, ap265, ap267, ap268, ap269, ap270, ap272, ap273, ap274, hr⟩
              · replace hr := iteB_neg hr hg1054
                refine WL.move .nil rfl rfl rfl rfl ?_
                refine WL.move .nil rfl rfl rfl rfl ?_
                refine WL.bin .nil rfl rfl rfl rfl rfl rfl ?_
                refine WL.pick .nil rfl rfl rfl rfl rfl ?_
                with_reducible refine WL.nil ?_
                with_reducible refine Ex.thn_norm ?_
                exact ⟨[(0, .slice a2 xs1.length cap3), (3, .pointer (some ⟨n27, 0, none⟩)), (4, .int .i64 x26.2), (6, .pointer (some ⟨n103, 0, none⟩)), (58, .bool (!decide (x102.2 = x26.2)))], (Fr.le_cons rfl (Fr.le_cons rfl (Fr.le_cons rfl (Fr.le_cons rfl (Fr.le_cons rfl Fr.le_nil))))), (!decide (x102.2 = x26.2)), F378, rfl, hS1053, (hE396.up (by omega)), ho1045, fo389, ho1046, fo390, (h244.mono hX379.sub), h1048, h1049, h1050, h1051, ap257, ap258, ap260, ap261, ap263, ap264, ap265, ap267, ap268, ap269, ap270, ap272, ap273, ap274, hr⟩
          · intro _ n470 H471 hI
            obtain ⟨x476, F472, rfl, hS473, hE474, ho479, fo480, ho483, fo484, h475, h477, h478, h481, h482, ap485, ap486, ap487, ap488, ap489, ap490, ap491, ap492, ap493, ap494, ap495, ap496, ap497, ap498, hr⟩ := hI
            have lt499 := hS473.lt ho479
            have lt500 := hS473.lt ho483
            have hlen470 := hE474.le
            have hlon470 := hS473.lo
            unfold f_laws_FnExactReadState_J1 at hr
            refine W.cond rfl (fun hc502 => ?_) (fun hc502 => ?_)
            · replace hr := iteB_pos hr hc502
              with_reducible refine W.seq ?_
              with_reducible refine W.region ?_
              refine WL.assign .nil rfl rfl rfl rfl ?_
              with_reducible refine WL.nil ?_
              with_reducible refine Ex.thn_norm ?_
              with_reducible refine W.ret ?_
              with_reducible refine Ex.thn_ret ?_
              obtain rfl := Option.some.inj hr
              exact ⟨.inr rfl, _, (.cons (.tmp rfl) .nil), ⟨(Ext.st hE474 hS473), rfl⟩⟩
            · replace hr := iteB_neg hr hc502
              with_reducible refine W.skip ?_
              with_reducible refine Ex.thn_norm ?_
              with_reducible refine W.seq ?_
              with_reducible refine W.region ?_
              refine WL.assign .nil rfl rfl rfl rfl ?_
              with_reducible refine WL.nil ?_
              with_reducible refine Ex.thn_norm ?_
              with_reducible refine W.seq ?_
              with_reducible refine W.region ?_
              refine WL.loadN .nil (l' := [.slice a112 x102.1.Files.length cap113, .slice a115 x102.1.Sessions.length cap116]) rfl rfl rfl Try.underlying26 rfl info26 rfl ho479 rfl rfl ?_
              refine WL.move .nil rfl rfl rfl rfl ?_
              refine GL.callIn (args := [.agg [.slice a112 x102.1.Files.length cap113, .slice a115 x102.1.Sessions.length cap116].toArray, .int .i64 1]) .nil n0 rfl rfl rfl rfl rfl rfl Try.func11 rfl rfl (Nat.le_refl _) hS473.lo ?_
              refine C.body Try.func11 rfl rfl ?_
              with_reducible refine W.seq ?_
              with_reducible refine W.region ?_
              refine GL.box hS473 .nil (vc := [.slice a112 x102.1.Files.length cap113, .slice a115 x102.1.Sessions.length cap116]) rfl rfl rfl rfl rfl (by repeat' (first | exact List.forall_mem_nil _ | refine List.forall_mem_cons.2 ⟨?_, ?_⟩ | rfl)) (fun H503 hS504 ho505 hk506 => ?_)
              have fo507 := hS473.fnone (Nat.le_refl _)
              have ap509 : idOf (.slice a112 x102.1.Files.length cap113) ≠ some n470 := fun hj => by have := OW.id_lt h477 hj; omega
              have ap510 : idOf (.slice a115 x102.1.Sessions.length cap116) ≠ some n470 := fun hj => by have := OW.id_lt h478 hj; omega
              have ap511 : idOf (.slice a33 x26.1.Files.length cap34) ≠ some n470 := fun hj => by have := OW.id_lt h481 hj; omega
              have ap512 : idOf (.slice a36 x26.1.Sessions.length cap37) ≠ some n470 := fun hj => by have := OW.id_lt h482 hj; omega
              have ho513 := (hk506 _ (by have := lt499; omega)).trans ho479
              have ho514 := (hk506 _ (by have := lt500; omega)).trans ho483
              have h515 := OW.keep (n' := (n470 + 1)) h477 (by omega) (fun i hi => hk506 i (OW.id_lt h477 hi).2)
              have h516 := OW.keep (n' := (n470 + 1)) h478 (by omega) (fun i hi => hk506 i (OW.id_lt h478 hi).2)
              have h517 := OW.keep (n' := (n470 + 1)) h481 (by omega) (fun i hi => hk506 i (OW.id_lt h481 hi).2)
              have h518 := OW.keep (n' := (n470 + 1)) h482 (by omega) (fun i hi => hk506 i (OW.id_lt h482 hi).2)
              have hlon4701 := hS504.lo
              have lt508 : n470 < (n470 + 1) := by omega
              refine WL.assign .nil rfl rfl rfl rfl ?_
              with_reducible refine WL.nil ?_
              with_reducible refine Ex.thn_norm ?_
              with_reducible refine W.seq ?_
              with_reducible refine W.region ?_
              refine WL.fieldAddr .nil rfl rfl rfl Try.underlying26 rfl info23 rfl rfl ?_
              refine WL.load1 .nil rfl rfl rfl Try.underlying23 rfl rfl ho505 rfl ?_
              refine WL.move .nil rfl rfl rfl rfl ?_
              obtain ⟨x519, hx519, hr⟩ := bnd_some hr
              have hb529 := fun b hb => (OW.id_lt (i := b) h515 hb).2
              have hb530 := fun b hb => (OW.id_lt (i := b) h516 hb).2
              have hb531 := fun b hb => (OW.id_lt (i := b) h517 hb).2
              have hb532 := fun b hb => (OW.id_lt (i := b) h518 hb).2
              refine GL.callIO g .nil (fun i => (F472 i).isSome = true ∨ idOf (.slice a112 x102.1.Files.length cap113) = some i) rfl rfl rfl rfl rfl rfl Try.func27 rfl rfl (Nat.le_refl _) hS504.lo (f_laws_markFileS_k  g (St.vis hS504 (fun i hi => .inl hi)) (OW.vis h515 (fun i hi => (.inr (hi)))) hx519) (fun v n520 H521 H522 hn523 hp524 hle525 hnew526 hk527 hd528 => ?_)
              obtain ⟨F535, hX536, hS534, h533, hl537, rfl⟩ := hp524
              have hS538 : St n0 n520 H521 _ := ⟨hS534.lo, fun i hi => (hnew526 i (by omega)).trans (hS534.hb i hi), hS534.fh.trans hle525⟩
              have ho539 := (hk527 _ (by have := lt499; omega) (fun hs => by
      rcases hs with h | h
      · rw [fo480] at h; cases h
      · exact ap485 h)).trans ho513
              have ho540 := (hk527 _ (by have := lt500; omega) (fun hs => by
      rcases hs with h | h
      · rw [fo484] at h; cases h
      · exact ap486 h)).trans ho514
              have ho541 := (hk527 _ (by have := lt508; omega) (fun hs => by
      rcases hs with h | h
      · rw [fo507] at h; cases h
      · exact ap509 h)).trans ho505
              have h542 := OW.keep (n' := n520) h516 (by omega) (fun i hi => hk527 i (OW.id_lt h516 hi).2 (fun hs => by
      rcases hs with h | h
      · rw [(OW.fnone h516 hi)] at h; cases h
      · exact (fun b h1 h2 => ap489 b h2 h1) _ h hi))
              have h543 := OW.keep (n' := n520) h517 (by omega) (fun i hi => hk527 i (OW.id_lt h517 hi).2 (fun hs => by
      rcases hs with h | h
      · rw [(OW.fnone h517 hi)] at h; cases h
      · exact (fun b h1 h2 => ap492 b h2 h1) _ h hi))
              have h544 := OW.keep (n' := n520) h518 (by omega) (fun i hi => hk527 i (OW.id_lt h518 hi).2 (fun hs => by
      rcases hs with h | h
      · rw [(OW.fnone h518 hi)] at h; cases h
      · exact (fun b h1 h2 => ap496 b h2 h1) _ h hi))
              have fo545 := (hX536.eq _ (by have := lt499; omega)).trans fo480
              have fo546 := (hX536.eq _ (by have := lt500; omega)).trans fo484
              have fo547 := (hX536.eq _ (by have := lt508; omega)).trans fo507
              have h548 := OW.keepF h542 hX536.sub (fun i hi => (hX536.eq i (by have := hb530 i hi; omega)).trans (OW.fnone h542 hi))
              have h549 := OW.keepF h543 hX536.sub (fun i hi => (hX536.eq i (by have := hb531 i hi; omega)).trans (OW.fnone h543 hi))
              have h550 := OW.keepF h544 hX536.sub (fun i hi => (hX536.eq i (by have := hb532 i hi; omega)).trans (OW.fnone h544 hi))
              have hE551 := (hE474.up (n' := (n470 + 1)) (by omega)).trans hX536
              have h552 := OW.le h533 hle525
              have hlon520 := hS538.lo
              have lt553 := hS538.lt ho539
              have lt554 := hS538.lt ho540
              have lt555 := hS538.lt ho541
              refine WL.assign .nil rfl rfl rfl rfl ?_
              with_reducible refine WL.nil ?_
              with_reducible refine Ex.thn_norm ?_
              with_reducible refine W.seq ?_
              with_reducible refine W.region ?_
              refine WL.fieldAddr .nil rfl rfl rfl Try.underlying26 rfl info24 rfl rfl ?_
              refine WL.load1 .nil rfl rfl rfl Try.underlying24 rfl rfl ho541 rfl ?_
              refine WL.move .nil rfl rfl rfl rfl ?_
              obtain ⟨x556, hx556, hr⟩ := bnd_some hr
              have hb566 := fun b hb => (OW.id_lt (i := b) h552 hb).2
              have hb567 := fun b hb => (OW.id_lt (i := b) h548 hb).2
              have hb568 := fun b hb => (OW.id_lt (i := b) h549 hb).2
              have hb569 := fun b hb => (OW.id_lt (i := b) h550 hb).2
              refine GL.callIO g .nil (fun i => (F535 i).isSome = true ∨ idOf (.slice a115 x102.1.Sessions.length cap116) = some i) rfl rfl rfl rfl rfl rfl Try.func28 rfl rfl (Nat.le_refl _) hS538.lo (f_laws_markSessionS_k  g (St.vis hS538 (fun i hi => .inl hi)) (OW.vis h548 (fun i hi => (.inr (hi)))) hx556) (fun v n557 H558 H559 hn560 hp561 hle562 hnew563 hk564 hd565 => ?_)
              obtain ⟨F572, hX573, hS571, h570, hl574, rfl⟩ := hp561
              have hS575 : St n0 n557 H558 _ := ⟨hS571.lo, fun i hi => (hnew563 i (by omega)).trans (hS571.hb i hi), hS571.fh.trans hle562⟩
              have ho576 := (hk564 _ (by have := lt553; omega) (fun hs => by
      rcases hs with h | h
      · rw [fo545] at h; cases h
      · exact ap487 h)).trans ho539
              have ho577 := (hk564 _ (by have := lt554; omega) (fun hs => by
      rcases hs with h | h
      · rw [fo546] at h; cases h
      · exact ap488 h)).trans ho540
              have ho578 := (hk564 _ (by have := lt555; omega) (fun hs => by
      rcases hs with h | h
      · rw [fo547] at h; cases h
      · exact ap510 h)).trans ho541
              have h579 := OW.keep (n' := n557) h552 (by omega) (fun i hi => hk564 i (OW.id_lt h552 hi).2 (fun hs => by
      rcases hs with h | h
      · rw [(OW.fnone h552 hi)] at h; cases h
      · exact ap489 _ h hi))
              have h580 := OW.keep (n' := n557) h549 (by omega) (fun i hi => hk564 i (OW.id_lt h549 hi).2 (fun hs => by
      rcases hs with h | h
      · rw [(OW.fnone h549 hi)] at h; cases h
      · exact (fun b h1 h2 => ap493 b h2 h1) _ h hi))
              have h581 := OW.keep (n' := n557) h550 (by omega) (fun i hi => hk564 i (OW.id_lt h550 hi).2 (fun hs => by
      rcases hs with h | h
      · rw [(OW.fnone h550 hi)] at h; cases h
      · exact (fun b h1 h2 => ap497 b h2 h1) _ h hi))
              have fo582 := (hX573.eq _ (by have := lt553; omega)).trans fo545
              have fo583 := (hX573.eq _ (by have := lt554; omega)).trans fo546
              have fo584 := (hX573.eq _ (by have := lt555; omega)).trans fo547
              have h585 := OW.keepF h579 hX573.sub (fun i hi => (hX573.eq i (by have := hb566 i hi; omega)).trans (OW.fnone h579 hi))
              have h586 := OW.keepF h580 hX573.sub (fun i hi => (hX573.eq i (by have := hb568 i hi; omega)).trans (OW.fnone h580 hi))
              have h587 := OW.keepF h581 hX573.sub (fun i hi => (hX573.eq i (by have := hb569 i hi; omega)).trans (OW.fnone h581 hi))
              have hE588 := (hE551.up (n' := n520) (by omega)).trans hX573
              have h589 := OW.le h570 hle562
              have hlon557 := hS575.lo
              have lt590 := hS575.lt ho576
              have lt591 := hS575.lt ho577
              have lt592 := hS575.lt ho578
              refine WL.assign .nil rfl rfl rfl rfl ?_
              with_reducible refine WL.nil ?_
              with_reducible refine Ex.thn_norm ?_
              with_reducible refine W.seq ?_
              with_reducible refine W.region ?_
              refine WL.move .nil rfl rfl rfl rfl ?_
              refine WL.assign .nil rfl rfl rfl rfl ?_
              with_reducible refine WL.nil ?_
              with_reducible refine Ex.thn_norm ?_
              with_reducible refine W.ret ?_
              refine ⟨.inr rfl, _, (.cons (.tmp rfl) .nil), ?_⟩
              refine WL.assign .nil rfl rfl rfl rfl ?_
              with_reducible refine WL.nil ?_
              with_reducible refine Ex.thn_norm ?_
              with_reducible refine W.seq ?_
              with_reducible refine W.region ?_
              refine WL.assign .nil rfl rfl rfl rfl ?_
              with_reducible refine WL.nil ?_
              with_reducible refine Ex.thn_norm ?_
              with_reducible refine W.seq ?_
              with_reducible refine W.region ?_
              refine WL.loadN .nil (l' := [.slice a112 x102.1.Files.length cap113, .slice a115 x102.1.Sessions.length cap116]) rfl rfl rfl Try.underlying26 rfl info26 rfl ho576 rfl rfl ?_
              refine WL.move .nil rfl rfl rfl rfl ?_
              obtain ⟨F593, hS594, hle595, h596, hf597⟩ := OW.freeze h585 hS575
              have fo598 := (hf597 _ ap485).trans fo582
              have fo599 := (hf597 _ ap486).trans fo583
              have fo600 := (hf597 _ ap509).trans fo584
              have h601 := OW.keepF h589 hle595 (fun i hi => (hf597 i (fun hj => (fun b h1 h2 => ap489 b h2 h1) i hj hi)).trans (OW.fnone h589 hi))
              have h602 := OW.keepF h586 hle595 (fun i hi => (hf597 i (fun hj => (fun b h1 h2 => ap492 b h2 h1) i hj hi)).trans (OW.fnone h586 hi))
              have h603 := OW.keepF h587 hle595 (fun i hi => (hf597 i (fun hj => (fun b h1 h2 => ap496 b h2 h1) i hj hi)).trans (OW.fnone h587 hi))
              obtain ⟨F605, hS606, hle607, h608, hf609⟩ := OW.freeze h601 hS594
              have fo610 := (hf609 _ ap487).trans fo598
              have fo611 := (hf609 _ ap488).trans fo599
              have fo612 := (hf609 _ ap510).trans fo600
              have h613 := OW.keepF h602 hle607 (fun i hi => (hf609 i (fun hj => (fun b h1 h2 => ap493 b h2 h1) i hj hi)).trans (OW.fnone h602 hi))
              have h614 := OW.keepF h603 hle607 (fun i hi => (hf609 i (fun hj => (fun b h1 h2 => ap497 b h2 h1) i hj hi)).trans (OW.fnone h603 hi))
              obtain ⟨x616, hx616, hr⟩ := bnd_some hr
              have hb622 := fun b hb => (OW.id_lt (i := b) h585 hb).2
              have hb623 := fun b hb => (OW.id_lt (i := b) h589 hb).2
              have hb624 := fun b hb => (OW.id_lt (i := b) h586 hb).2
              have hb625 := fun b hb => (OW.id_lt (i := b) h587 hb).2
              refine GL.callP g.good .nil rfl rfl rfl rfl rfl (by rw [← hl537, ← hl574]; rfl) Try.func12 rfl rfl hS575.lo (f_laws_heldState_k  g hS606 (SR.head hl537 (h596.mono hle607)) (SR.head hl574 h608) hx616) (fun v n617 H618 hn619 hk620 hp621 => ?_)
              obtain ⟨hS626, rfl⟩ := hp621
              have ho627 := (hk620 _ (by have := lt590; omega)).trans ho576
              have ho628 := (hk620 _ (by have := lt591; omega)).trans ho577
              have ho629 := (hk620 _ (by have := lt592; omega)).trans ho578
              have h630 := OW.keep (n' := n617) h585 (by omega) (fun i hi => hk620 i (OW.id_lt h585 hi).2)
              have h631 := OW.keep (n' := n617) h589 (by omega) (fun i hi => hk620 i (OW.id_lt h589 hi).2)
              have h632 := OW.keep (n' := n617) h586 (by omega) (fun i hi => hk620 i (OW.id_lt h586 hi).2)
              have h633 := OW.keep (n' := n617) h587 (by omega) (fun i hi => hk620 i (OW.id_lt h587 hi).2)
              have hS634 : St n0 n617 H618 F572 := ⟨by have := hS575.lo; omega, hS626.hb, fun i o hi => (hk620 i (hS575.lt (hS575.fh i o hi))).trans (hS575.fh i o hi)⟩
              have hlon617 := hS634.lo
              refine WL.assign .nil rfl rfl rfl rfl ?_
              with_reducible refine WL.nil ?_
              with_reducible refine Ex.thn_norm ?_
              with_reducible refine W.seq ?_
              with_reducible refine W.seq ?_
              with_reducible refine W.region ?_
              refine WL.move .nil rfl rfl rfl rfl ?_
              refine WL.bin .nil rfl rfl rfl rfl rfl rfl ?_
              with_reducible refine WL.nil ?_
              with_reducible refine Ex.thn_norm ?_
              refine W.condD rfl (fun hc636 => ?_) (fun hc636 => ?_)
              · replace hr := ite_pos hr hc636
                with_reducible refine W.seq ?_
                with_reducible refine W.region ?_
                refine WL.assign .nil rfl rfl rfl rfl ?_
                with_reducible refine WL.nil ?_
                with_reducible refine Ex.thn_norm ?_
                with_reducible refine W.ret ?_
                with_reducible refine Ex.thn_ret ?_
                obtain rfl := Option.some.inj hr
                exact ⟨.inr rfl, _, (.cons (.tmp rfl) .nil), ⟨(Ext.st hE588 hS634), rfl⟩⟩
              · replace hr := ite_neg hr hc636
                with_reducible refine W.skip ?_
                with_reducible refine Ex.thn_norm ?_
                with_reducible refine W.seq ?_
                with_reducible refine W.seq ?_
                with_reducible refine W.region ?_
                refine WL.move .nil rfl rfl rfl rfl ?_
                refine WL.move .nil rfl rfl rfl rfl ?_
                refine WL.bin .nil rfl rfl rfl rfl rfl rfl ?_
                with_reducible refine WL.nil ?_
                with_reducible refine Ex.thn_norm ?_
                refine W.condN rfl (fun hc638 => ?_) (fun hc638 => ?_)
                · replace hr := ite_neg hr hc638
                  with_reducible refine W.seq ?_
                  with_reducible refine W.region ?_
                  refine WL.assign .nil rfl rfl rfl rfl ?_
                  with_reducible refine WL.nil ?_
                  with_reducible refine Ex.thn_norm ?_
                  with_reducible refine W.ret ?_
                  with_reducible refine Ex.thn_ret ?_
                  obtain rfl := Option.some.inj hr
                  exact ⟨.inr rfl, _, (.cons (.tmp rfl) .nil), ⟨(Ext.st hE588 hS634), rfl⟩⟩
                · replace hr := ite_pos hr hc638
                  with_reducible refine W.skip ?_
                  with_reducible refine Ex.thn_norm ?_
                  with_reducible refine W.seq ?_
                  with_reducible refine W.region ?_
                  refine WL.move .nil rfl rfl rfl rfl ?_
                  obtain ⟨x639, hx639, hr⟩ := bnd_some hr
                  have hb645 := fun b hb => (OW.id_lt (i := b) h630 hb).2
                  have hb646 := fun b hb => (OW.id_lt (i := b) h631 hb).2
                  have hb647 := fun b hb => (OW.id_lt (i := b) h632 hb).2
                  have hb648 := fun b hb => (OW.id_lt (i := b) h633 hb).2
                  refine GL.callP g.good .nil rfl rfl rfl rfl rfl rfl Try.func6 rfl rfl hS634.lo (f_laws_toByteS_k  g hS634 ((h475.mono hX536.sub).mono hX573.sub) hx639) (fun v n640 H641 hn642 hk643 hp644 => ?_)
                  obtain ⟨a649, cap650, hS652, rfl, h651⟩ := hp644
                  have ho653 := (hk643 _ (by have := lt590; omega)).trans ho627
                  have ho654 := (hk643 _ (by have := lt591; omega)).trans ho628
                  have ho655 := (hk643 _ (by have := lt592; omega)).trans ho629
                  have h656 := OW.keep (n' := n640) h630 (by omega) (fun i hi => hk643 i (OW.id_lt h630 hi).2)
                  have h657 := OW.keep (n' := n640) h631 (by omega) (fun i hi => hk643 i (OW.id_lt h631 hi).2)
                  have h658 := OW.keep (n' := n640) h632 (by omega) (fun i hi => hk643 i (OW.id_lt h632 hi).2)
                  have h659 := OW.keep (n' := n640) h633 (by omega) (fun i hi => hk643 i (OW.id_lt h633 hi).2)
                  have hS660 : St n0 n640 H641 F572 := ⟨by have := hS634.lo; omega, hS652.hb, hS652.fh⟩
                  have hlon640 := hS660.lo
                  have h661 := OW.lower (lo' := n0) h651 (by omega)
                  have ap663 : idOf (.slice a649 x639.length cap650) ≠ some n103 := fun hj => by have := (OW.id_lt h651 hj).1; have := lt590; omega
                  have ap664 : idOf (.slice a649 x639.length cap650) ≠ some n27 := fun hj => by have := (OW.id_lt h651 hj).1; have := lt591; omega
                  have ap665 : idOf (.slice a649 x639.length cap650) ≠ some n470 := fun hj => by have := (OW.id_lt h651 hj).1; have := lt592; omega
                  have ap666 : ∀ b, idOf (.slice a649 x639.length cap650) = some b → idOf (.slice a112 x102.1.Files.length cap113) ≠ some b := fun b hj hi => by have := (OW.id_lt h651 hj).1; have := hb645 b hi; omega
                  have ap667 : ∀ b, idOf (.slice a649 x639.length cap650) = some b → idOf (.slice a115 x102.1.Sessions.length cap116) ≠ some b := fun b hj hi => by have := (OW.id_lt h651 hj).1; have := hb646 b hi; omega
                  have ap668 : ∀ b, idOf (.slice a649 x639.length cap650) = some b → idOf (.slice a33 x26.1.Files.length cap34) ≠ some b := fun b hj hi => by have := (OW.id_lt h651 hj).1; have := hb647 b hi; omega
                  have ap669 : ∀ b, idOf (.slice a649 x639.length cap650) = some b → idOf (.slice a36 x26.1.Sessions.length cap37) ≠ some b := fun b hj hi => by have := (OW.id_lt h651 hj).1; have := hb648 b hi; omega
                  obtain ⟨F670, hS671, hle672, h673, hf674⟩ := OW.freeze h661 hS660
                  have fo675 := (hf674 _ ap663).trans fo582
                  have fo676 := (hf674 _ ap664).trans fo583
                  have fo677 := (hf674 _ ap665).trans fo584
                  have h678 := OW.keepF h656 hle672 (fun i hi => (hf674 i (fun hj => ap666 i hj hi)).trans (OW.fnone h656 hi))
                  have h679 := OW.keepF h657 hle672 (fun i hi => (hf674 i (fun hj => ap667 i hj hi)).trans (OW.fnone h657 hi))
                  have h680 := OW.keepF h658 hle672 (fun i hi => (hf674 i (fun hj => ap668 i hj hi)).trans (OW.fnone h658 hi))
                  have h681 := OW.keepF h659 hle672 (fun i hi => (hf674 i (fun hj => ap669 i hj hi)).trans (OW.fnone h659 hi))
                  obtain ⟨x683, hx683, hr⟩ := bnd_some hr
                  have hb689 := fun b hb => (OW.id_lt (i := b) h656 hb).2
                  have hb690 := fun b hb => (OW.id_lt (i := b) h657 hb).2
                  have hb691 := fun b hb => (OW.id_lt (i := b) h658 hb).2
                  have hb692 := fun b hb => (OW.id_lt (i := b) h659 hb).2
                  have hb693 := fun b hb => (OW.id_lt (i := b) h661 hb).2
                  refine GL.callP g.good .nil rfl rfl rfl rfl rfl rfl Try.func7 rfl rfl hS660.lo (f_impl_ReadState_k  g hS671 h673 hx683) (fun v n684 H685 hn686 hk687 hp688 => ?_)
                  obtain ⟨a694, cap695, a697, cap698, hS700, rfl, h696, h699, ap701⟩ := hp688
                  have ho702 := (hk687 _ (by have := lt590; omega)).trans ho653
                  have ho703 := (hk687 _ (by have := lt591; omega)).trans ho654
                  have ho704 := (hk687 _ (by have := lt592; omega)).trans ho655
                  have h705 := OW.keep (n' := n684) h656 (by omega) (fun i hi => hk687 i (OW.id_lt h656 hi).2)
                  have h706 := OW.keep (n' := n684) h657 (by omega) (fun i hi => hk687 i (OW.id_lt h657 hi).2)
                  have h707 := OW.keep (n' := n684) h658 (by omega) (fun i hi => hk687 i (OW.id_lt h658 hi).2)
                  have h708 := OW.keep (n' := n684) h659 (by omega) (fun i hi => hk687 i (OW.id_lt h659 hi).2)
                  have h709 := OW.keep (n' := n684) h661 (by omega) (fun i hi => hk687 i (OW.id_lt h661 hi).2)
                  have hS710 : St n0 n684 H685 F572 := ⟨by have := hS660.lo; omega, hS700.hb, fun i o hi => (hk687 i (hS660.lt (hS660.fh i o hi))).trans (hS660.fh i o hi)⟩
                  have hlon684 := hS710.lo
                  have h711 := OW.lower (lo' := n0) (OW.downFl hle672 h696) (by omega)
                  have ap713 : idOf (.slice a694 x683.1.Files.length cap695) ≠ some n103 := fun hj => by have := (OW.id_lt h696 hj).1; have := lt590; omega
                  have ap714 : idOf (.slice a694 x683.1.Files.length cap695) ≠ some n27 := fun hj => by have := (OW.id_lt h696 hj).1; have := lt591; omega
                  have ap715 : idOf (.slice a694 x683.1.Files.length cap695) ≠ some n470 := fun hj => by have := (OW.id_lt h696 hj).1; have := lt592; omega
                  have ap716 : ∀ b, idOf (.slice a694 x683.1.Files.length cap695) = some b → idOf (.slice a112 x102.1.Files.length cap113) ≠ some b := fun b hj hi => by have := (OW.id_lt h696 hj).1; have := hb689 b hi; omega
                  have ap717 : ∀ b, idOf (.slice a694 x683.1.Files.length cap695) = some b → idOf (.slice a115 x102.1.Sessions.length cap116) ≠ some b := fun b hj hi => by have := (OW.id_lt h696 hj).1; have := hb690 b hi; omega
                  have ap718 : ∀ b, idOf (.slice a694 x683.1.Files.length cap695) = some b → idOf (.slice a33 x26.1.Files.length cap34) ≠ some b := fun b hj hi => by have := (OW.id_lt h696 hj).1; have := hb691 b hi; omega
                  have ap719 : ∀ b, idOf (.slice a694 x683.1.Files.length cap695) = some b → idOf (.slice a36 x26.1.Sessions.length cap37) ≠ some b := fun b hj hi => by have := (OW.id_lt h696 hj).1; have := hb692 b hi; omega
                  have ap720 : ∀ b, idOf (.slice a694 x683.1.Files.length cap695) = some b → idOf (.slice a649 x639.length cap650) ≠ some b := fun b hj hi => by have := (OW.id_lt h696 hj).1; have := hb693 b hi; omega
                  have h721 := OW.lower (lo' := n0) (OW.downFl hle672 h699) (by omega)
                  have ap723 : idOf (.slice a697 x683.1.Sessions.length cap698) ≠ some n103 := fun hj => by have := (OW.id_lt h699 hj).1; have := lt590; omega
                  have ap724 : idOf (.slice a697 x683.1.Sessions.length cap698) ≠ some n27 := fun hj => by have := (OW.id_lt h699 hj).1; have := lt591; omega
                  have ap725 : idOf (.slice a697 x683.1.Sessions.length cap698) ≠ some n470 := fun hj => by have := (OW.id_lt h699 hj).1; have := lt592; omega
                  have ap726 : ∀ b, idOf (.slice a697 x683.1.Sessions.length cap698) = some b → idOf (.slice a112 x102.1.Files.length cap113) ≠ some b := fun b hj hi => by have := (OW.id_lt h699 hj).1; have := hb689 b hi; omega
                  have ap727 : ∀ b, idOf (.slice a697 x683.1.Sessions.length cap698) = some b → idOf (.slice a115 x102.1.Sessions.length cap116) ≠ some b := fun b hj hi => by have := (OW.id_lt h699 hj).1; have := hb690 b hi; omega
                  have ap728 : ∀ b, idOf (.slice a697 x683.1.Sessions.length cap698) = some b → idOf (.slice a33 x26.1.Files.length cap34) ≠ some b := fun b hj hi => by have := (OW.id_lt h699 hj).1; have := hb691 b hi; omega
                  have ap729 : ∀ b, idOf (.slice a697 x683.1.Sessions.length cap698) = some b → idOf (.slice a36 x26.1.Sessions.length cap37) ≠ some b := fun b hj hi => by have := (OW.id_lt h699 hj).1; have := hb692 b hi; omega
                  have ap730 : ∀ b, idOf (.slice a697 x683.1.Sessions.length cap698) = some b → idOf (.slice a649 x639.length cap650) ≠ some b := fun b hj hi => by have := (OW.id_lt h699 hj).1; have := hb693 b hi; omega
                  refine WL.move .nil rfl rfl rfl rfl ?_
                  refine WL.extract .nil rfl rfl rfl rfl rfl ?_
                  refine WL.extract .nil rfl rfl rfl rfl rfl ?_
                  refine GL.alloc hS710 .nil (zc := [.slice none 0 0, .slice none 0 0]) rfl rfl rfl info26 rfl rfl rfl (fun H731 hS732 ho733 hk734 => ?_)
                  have fo735 := hS710.fnone (Nat.le_refl _)
                  have ap737 : idOf (.slice a112 x102.1.Files.length cap113) ≠ some n684 := fun hj => by have := OW.id_lt h705 hj; omega
                  have ap738 : idOf (.slice a115 x102.1.Sessions.length cap116) ≠ some n684 := fun hj => by have := OW.id_lt h706 hj; omega
                  have ap739 : idOf (.slice a33 x26.1.Files.length cap34) ≠ some n684 := fun hj => by have := OW.id_lt h707 hj; omega
                  have ap740 : idOf (.slice a36 x26.1.Sessions.length cap37) ≠ some n684 := fun hj => by have := OW.id_lt h708 hj; omega
                  have ap741 : idOf (.slice a649 x639.length cap650) ≠ some n684 := fun hj => by have := OW.id_lt h709 hj; omega
                  have ap742 : idOf (.slice a694 x683.1.Files.length cap695) ≠ some n684 := fun hj => by have := OW.id_lt h711 hj; omega
                  have ap743 : idOf (.slice a697 x683.1.Sessions.length cap698) ≠ some n684 := fun hj => by have := OW.id_lt h721 hj; omega
                  have ho744 := (hk734 _ (by have := lt590; omega)).trans ho702
                  have ho745 := (hk734 _ (by have := lt591; omega)).trans ho703
                  have ho746 := (hk734 _ (by have := lt592; omega)).trans ho704
                  have h747 := OW.keep (n' := (n684 + 1)) h705 (by omega) (fun i hi => hk734 i (OW.id_lt h705 hi).2)
                  have h748 := OW.keep (n' := (n684 + 1)) h706 (by omega) (fun i hi => hk734 i (OW.id_lt h706 hi).2)
                  have h749 := OW.keep (n' := (n684 + 1)) h707 (by omega) (fun i hi => hk734 i (OW.id_lt h707 hi).2)
                  have h750 := OW.keep (n' := (n684 + 1)) h708 (by omega) (fun i hi => hk734 i (OW.id_lt h708 hi).2)
                  have h751 := OW.keep (n' := (n684 + 1)) h709 (by omega) (fun i hi => hk734 i (OW.id_lt h709 hi).2)
                  have h752 := OW.keep (n' := (n684 + 1)) h711 (by omega) (fun i hi => hk734 i (OW.id_lt h711 hi).2)
                  have h753 := OW.keep (n' := (n684 + 1)) h721 (by omega) (fun i hi => hk734 i (OW.id_lt h721 hi).2)
                  have hlon6841 := hS732.lo
                  have lt736 : n684 < (n684 + 1) := by omega
                  refine GL.store hS732 .nil (vc := [.slice a694 x683.1.Files.length cap695, .slice a697 x683.1.Sessions.length cap698]) (c' := [.slice a694 x683.1.Files.length cap695, .slice a697 x683.1.Sessions.length cap698]) rfl rfl rfl info26 rfl rfl rfl rfl ho733 fo735 (Nat.le_of_ble_eq_true rfl) (by omega) (by repeat' (first | exact List.forall_mem_nil _ | refine List.forall_mem_cons.2 ⟨?_, ?_⟩ | rfl)) rfl (fun H754 hS755 ho756 hk757 => ?_)
                  have ho758 := (hk757 _ (by omega)).trans ho744
                  have ho759 := (hk757 _ (by omega)).trans ho745
                  have ho760 := (hk757 _ (by omega)).trans ho746
                  have h761 := OW.keep h747 (Nat.le_refl _) (fun i hi => hk757 i (fun hj => ap737 (hj ▸ hi)))
                  have h762 := OW.keep h748 (Nat.le_refl _) (fun i hi => hk757 i (fun hj => ap738 (hj ▸ hi)))
                  have h763 := OW.keep h749 (Nat.le_refl _) (fun i hi => hk757 i (fun hj => ap739 (hj ▸ hi)))
                  have h764 := OW.keep h750 (Nat.le_refl _) (fun i hi => hk757 i (fun hj => ap740 (hj ▸ hi)))
                  have h765 := OW.keep h751 (Nat.le_refl _) (fun i hi => hk757 i (fun hj => ap741 (hj ▸ hi)))
                  have h766 := OW.keep h752 (Nat.le_refl _) (fun i hi => hk757 i (fun hj => ap742 (hj ▸ hi)))
                  have h767 := OW.keep h753 (Nat.le_refl _) (fun i hi => hk757 i (fun hj => ap743 (hj ▸ hi)))
                  refine WL.assign .nil rfl rfl rfl rfl ?_
                  with_reducible refine WL.nil ?_
                  with_reducible refine Ex.thn_norm ?_
                  with_reducible refine W.seq ?_
                  with_reducible refine W.seq ?_
                  refine W.cut (fun fr n H => ∃ (x858 : Bool) (F : Heap), fr = [(6, .pointer (some ⟨n103, 0, none⟩)), (9, .int .i64 x556.2), (84, .bool x858)] ∧ St n0 n H F ∧ Ext n0 F0 n F ∧ H n103 = some (.row 1 [.slice a112 x102.1.Files.length cap113, .slice a115 x102.1.Sessions.length cap116]) ∧ F n103 = none ∧ OW n0 n H F (.slice a112 x102.1.Files.length cap113) x519.1 ∧ OW n0 n H F (.slice a115 x102.1.Sessions.length cap116) x556.1 ∧ idOf (.slice a112 x102.1.Files.length cap113) ≠ some n103 ∧ idOf (.slice a115 x102.1.Sessions.length cap116) ≠ some n103 ∧ (∀ b, idOf (.slice a115 x102.1.Sessions.length cap116) = some b → idOf (.slice a112 x102.1.Files.length cap113) ≠ some b) ∧ f_laws_FnExactReadState_J2 x519 x556 x858 = some res) ?_ ?_
                  · with_reducible refine W.region ?_
                    refine WL.loadN .nil (l' := [.slice a694 x683.1.Files.length cap695, .slice a697 x683.1.Sessions.length cap698]) rfl rfl rfl Try.underlying26 rfl info26 rfl ho756 rfl rfl ?_
                    refine WL.loadN .nil (l' := [.slice a33 x26.1.Files.length cap34, .slice a36 x26.1.Sessions.length cap37]) rfl rfl rfl Try.underlying26 rfl info26 rfl ho759 rfl rfl ?_
                    obtain ⟨F900, hS901, hle902, h903, hf904⟩ := OW.freeze h766 hS755
                    have fo905 := (hf904 _ ap713).trans fo582
                    have fo906 := (hf904 _ ap714).trans fo583
                    have fo907 := (hf904 _ ap715).trans fo584
                    have fo908 := (hf904 _ ap742).trans fo735
                    have h909 := OW.keepF h761 hle902 (fun i hi => (hf904 i (fun hj => ap716 i hj hi)).trans (OW.fnone h761 hi))
                    have h910 := OW.keepF h762 hle902 (fun i hi => (hf904 i (fun hj => ap717 i hj hi)).trans (OW.fnone h762 hi))
                    have h911 := OW.keepF h763 hle902 (fun i hi => (hf904 i (fun hj => ap718 i hj hi)).trans (OW.fnone h763 hi))
                    have h912 := OW.keepF h764 hle902 (fun i hi => (hf904 i (fun hj => ap719 i hj hi)).trans (OW.fnone h764 hi))
                    have h913 := OW.keepF h765 hle902 (fun i hi => (hf904 i (fun hj => ap720 i hj hi)).trans (OW.fnone h765 hi))
                    have h914 := OW.keepF h767 hle902 (fun i hi => (hf904 i (fun hj => (fun b h1 h2 => ap701 b h2 h1) i hj hi)).trans (OW.fnone h767 hi))
                    obtain ⟨F916, hS917, hle918, h919, hf920⟩ := OW.freeze h914 hS901
                    have fo921 := (hf920 _ ap723).trans fo905
                    have fo922 := (hf920 _ ap724).trans fo906
                    have fo923 := (hf920 _ ap725).trans fo907
                    have fo924 := (hf920 _ ap743).trans fo908
                    have h925 := OW.keepF h909 hle918 (fun i hi => (hf920 i (fun hj => ap726 i hj hi)).trans (OW.fnone h909 hi))
                    have h926 := OW.keepF h910 hle918 (fun i hi => (hf920 i (fun hj => ap727 i hj hi)).trans (OW.fnone h910 hi))
                    have h927 := OW.keepF h911 hle918 (fun i hi => (hf920 i (fun hj => ap728 i hj hi)).trans (OW.fnone h911 hi))
                    have h928 := OW.keepF h912 hle918 (fun i hi => (hf920 i (fun hj => ap729 i hj hi)).trans (OW.fnone h912 hi))
                    have h929 := OW.keepF h913 hle918 (fun i hi => (hf920 i (fun hj => ap730 i hj hi)).trans (OW.fnone h913 hi))
                    obtain ⟨F931, hS932, hle933, h934, hf935⟩ := OW.freeze h927 hS917
                    have fo936 := (hf935 _ ap490).trans fo921
                    have fo937 := (hf935 _ ap491).trans fo922
                    have fo938 := (hf935 _ ap511).trans fo923
                    have fo939 := (hf935 _ ap739).trans fo924
                    have h940 := OW.keepF h925 hle933 (fun i hi => (hf935 i (fun hj => ap492 i hj hi)).trans (OW.fnone h925 hi))
                    have h941 := OW.keepF h926 hle933 (fun i hi => (hf935 i (fun hj => ap493 i hj hi)).trans (OW.fnone h926 hi))
                    have h942 := OW.keepF h928 hle933 (fun i hi => (hf935 i (fun hj => (fun b h1 h2 => ap498 b h2 h1) i hj hi)).trans (OW.fnone h928 hi))
                    have h943 := OW.keepF h929 hle933 (fun i hi => (hf935 i (fun hj => (fun b h1 h2 => ap668 b h2 h1) i hj hi)).trans (OW.fnone h929 hi))
                    obtain ⟨F945, hS946, hle947, h948, hf949⟩ := OW.freeze h942 hS932
                    have fo950 := (hf949 _ ap494).trans fo936
                    have fo951 := (hf949 _ ap495).trans fo937
                    have fo952 := (hf949 _ ap512).trans fo938
                    have fo953 := (hf949 _ ap740).trans fo939
                    have h954 := OW.keepF h940 hle947 (fun i hi => (hf949 i (fun hj => ap496 i hj hi)).trans (OW.fnone h940 hi))
                    have h955 := OW.keepF h941 hle947 (fun i hi => (hf949 i (fun hj => ap497 i hj hi)).trans (OW.fnone h941 hi))
                    have h956 := OW.keepF h943 hle947 (fun i hi => (hf949 i (fun hj => (fun b h1 h2 => ap669 b h2 h1) i hj hi)).trans (OW.fnone h943 hi))
                    obtain ⟨x958, hx958, hr⟩ := bnd_some hr
                    have hb964 := fun b hb => (OW.id_lt (i := b) h761 hb).2
                    have hb965 := fun b hb => (OW.id_lt (i := b) h762 hb).2
                    have hb966 := fun b hb => (OW.id_lt (i := b) h763 hb).2
                    have hb967 := fun b hb => (OW.id_lt (i := b) h764 hb).2
                    have hb968 := fun b hb => (OW.id_lt (i := b) h765 hb).2
                    have hb969 := fun b hb => (OW.id_lt (i := b) h766 hb).2
                    have hb970 := fun b hb => (OW.id_lt (i := b) h767 hb).2
                    refine GL.callP g.good .nil rfl rfl rfl rfl rfl rfl Try.func8 rfl rfl hS755.lo (f_laws_eqState_k  g hS946 (((h903.mono hle918).mono hle933).mono hle947) ((h919.mono hle933).mono hle947) (h934.mono hle947) h948 hx958) (fun v n959 H960 hn961 hk962 hp963 => ?_)
                    obtain ⟨hS971, rfl⟩ := hp963
                    have ho972 := (hk962 _ (by have := lt590; omega)).trans ho758
                    have ho973 := (hk962 _ (by have := lt591; omega)).trans ho759
                    have ho974 := (hk962 _ (by have := lt592; omega)).trans ho760
                    have ho975 := (hk962 _ (by have := lt736; omega)).trans ho756
                    have h976 := OW.keep (n' := n959) h761 (by omega) (fun i hi => hk962 i (OW.id_lt h761 hi).2)
                    have h977 := OW.keep (n' := n959) h762 (by omega) (fun i hi => hk962 i (OW.id_lt h762 hi).2)
                    have h978 := OW.keep (n' := n959) h763 (by omega) (fun i hi => hk962 i (OW.id_lt h763 hi).2)
                    have h979 := OW.keep (n' := n959) h764 (by omega) (fun i hi => hk962 i (OW.id_lt h764 hi).2)
                    have h980 := OW.keep (n' := n959) h765 (by omega) (fun i hi => hk962 i (OW.id_lt h765 hi).2)
                    have h981 := OW.keep (n' := n959) h766 (by omega) (fun i hi => hk962 i (OW.id_lt h766 hi).2)
                    have h982 := OW.keep (n' := n959) h767 (by omega) (fun i hi => hk962 i (OW.id_lt h767 hi).2)
                    have hS983 : St n0 n959 H960 F572 := ⟨by have := hS755.lo; omega, hS971.hb, fun i o hi => (hk962 i (hS755.lt (hS755.fh i o hi))).trans (hS755.fh i o hi)⟩
                    have hlon959 := hS983.lo
                    refine WL.not .nil rfl rfl rfl rfl ?_
                    refine WL.move .nil rfl rfl rfl rfl ?_
                    refine WL.guard rfl rfl rfl (fun hg984 => ?_) (fun hg984 => ?_)
                    · replace hr := iteB_pos hr hg984
                      refine WL.skip .nil rfl rfl ?_
                      refine WL.skip .nil rfl rfl ?_
                      refine WL.skip .nil rfl rfl ?_
                      refine WL.pick .nil rfl rfl rfl rfl rfl ?_
                      with_reducible refine WL.nil ?_
                      with_reducible refine Ex.thn_norm ?_
                      exact ⟨[(6, .pointer (some ⟨n103, 0, none⟩)), (9, .int .i64 x556.2), (84, .bool true)], (Fr.le_cons rfl (Fr.le_cons rfl (Fr.le_cons rfl Fr.le_nil))), true, F572, rfl, hS983, (hE588.up (by omega)), ho972, fo582, h976, h977, ap485, ap487, ap489, hr⟩
                    · replace hr := iteB_neg hr hg984
                      refine WL.move .nil rfl rfl rfl rfl ?_
                      refine WL.move .nil rfl rfl rfl rfl ?_
                      refine WL.bin .nil rfl rfl rfl rfl rfl rfl ?_
                      refine WL.pick .nil rfl rfl rfl rfl rfl ?_
                      with_reducible refine WL.nil ?_
                      with_reducible refine Ex.thn_norm ?_
                      exact ⟨[(6, .pointer (some ⟨n103, 0, none⟩)), (9, .int .i64 x556.2), (84, .bool (!decide (x683.2 = x26.2)))], (Fr.le_cons rfl (Fr.le_cons rfl (Fr.le_cons rfl Fr.le_nil))), (!decide (x683.2 = x26.2)), F572, rfl, hS983, (hE588.up (by omega)), ho972, fo582, h976, h977, ap485, ap487, ap489, hr⟩
                  · intro _ n853 H854 hI
                    obtain ⟨x858, F855, rfl, hS856, hE857, ho861, fo862, h859, h860, ap863, ap864, ap865, hr⟩ := hI
                    have lt866 := hS856.lt ho861
                    have hlen853 := hE857.le
                    have hlon853 := hS856.lo
                    unfold f_laws_FnExactReadState_J2 at hr
                    refine W.cond rfl (fun hc868 => ?_) (fun hc868 => ?_)
                    · replace hr := iteB_pos hr hc868
                      with_reducible refine W.seq ?_
                      with_reducible refine W.region ?_
                      refine WL.assign .nil rfl rfl rfl rfl ?_
                      with_reducible refine WL.nil ?_
                      with_reducible refine Ex.thn_norm ?_
                      with_reducible refine W.ret ?_
                      with_reducible refine Ex.thn_ret ?_
                      obtain rfl := Option.some.inj hr
                      exact ⟨.inr rfl, _, (.cons (.tmp rfl) .nil), ⟨(Ext.st hE857 hS856), rfl⟩⟩
                    · replace hr := iteB_neg hr hc868
                      with_reducible refine W.skip ?_
                      with_reducible refine Ex.thn_norm ?_
                      with_reducible refine W.seq ?_
                      with_reducible refine W.region ?_
                      refine WL.assign .nil rfl rfl rfl rfl ?_
                      with_reducible refine WL.nil ?_
                      with_reducible refine Ex.thn_norm ?_
                      with_reducible refine W.seq ?_
                      with_reducible refine W.region ?_
                      refine WL.loadN .nil (l' := [.slice a112 x102.1.Files.length cap113, .slice a115 x102.1.Sessions.length cap116]) rfl rfl rfl Try.underlying26 rfl info26 rfl ho861 rfl rfl ?_
                      refine WL.move .nil rfl rfl rfl rfl ?_
                      obtain ⟨F869, hS870, hle871, h872, hf873⟩ := OW.freeze h859 hS856
                      have fo874 := (hf873 _ ap863).trans fo862
                      have h875 := OW.keepF h860 hle871 (fun i hi => (hf873 i (fun hj => (fun b h1 h2 => ap865 b h2 h1) i hj hi)).trans (OW.fnone h860 hi))
                      obtain ⟨F877, hS878, hle879, h880, hf881⟩ := OW.freeze h875 hS870
                      have fo882 := (hf881 _ ap864).trans fo874
                      obtain ⟨x884, hx884, hr⟩ := bnd_some hr
                      have hb890 := fun b hb => (OW.id_lt (i := b) h859 hb).2
                      have hb891 := fun b hb => (OW.id_lt (i := b) h860 hb).2
                      refine GL.callP g.good .nil rfl rfl rfl rfl rfl (by rw [← hl537, ← hl574]; rfl) Try.func12 rfl rfl hS856.lo (f_laws_heldState_k  g hS878 (SR.head hl537 (h872.mono hle879)) (SR.head hl574 h880) hx884) (fun v n885 H886 hn887 hk888 hp889 => ?_)
                      obtain ⟨hS892, rfl⟩ := hp889
                      have ho893 := (hk888 _ (by have := lt866; omega)).trans ho861
                      have h894 := OW.keep (n' := n885) h859 (by omega) (fun i hi => hk888 i (OW.id_lt h859 hi).2)
                      have h895 := OW.keep (n' := n885) h860 (by omega) (fun i hi => hk888 i (OW.id_lt h860 hi).2)
                      have hS896 : St n0 n885 H886 F855 := ⟨by have := hS856.lo; omega, hS892.hb, fun i o hi => (hk888 i (hS856.lt (hS856.fh i o hi))).trans (hS856.fh i o hi)⟩
                      have hlon885 := hS896.lo
                      refine WL.assign .nil rfl rfl rfl rfl ?_
                      with_reducible refine WL.nil ?_
                      with_reducible refine Ex.thn_norm ?_
                      with_reducible refine W.seq ?_
                      with_reducible refine W.seq ?_
                      with_reducible refine W.region ?_
                      refine WL.move .nil rfl rfl rfl rfl ?_
                      refine WL.bin .nil rfl rfl rfl rfl rfl rfl ?_
                      with_reducible refine WL.nil ?_
                      with_reducible refine Ex.thn_norm ?_
                      refine W.condD rfl (fun hc898 => ?_) (fun hc898 => ?_)
                      · replace hr := ite_pos hr hc898
                        with_reducible refine W.seq ?_
                        with_reducible refine W.region ?_
                        refine WL.assign .nil rfl rfl rfl rfl ?_
                        with_reducible refine WL.nil ?_
                        with_reducible refine Ex.thn_norm ?_
                        with_reducible refine W.ret ?_
                        with_reducible refine Ex.thn_ret ?_
                        obtain rfl := Option.some.inj hr
                        exact ⟨.inr rfl, _, (.cons (.tmp rfl) .nil), ⟨(Ext.st hE857 hS896), rfl⟩⟩
                      · replace hr := ite_neg hr hc898
                        with_reducible refine W.skip ?_
                        with_reducible refine Ex.thn_norm ?_
                        with_reducible refine W.seq ?_
                        with_reducible refine W.seq ?_
                        with_reducible refine W.region ?_
                        refine WL.move .nil rfl rfl rfl rfl ?_
                        refine WL.move .nil rfl rfl rfl rfl ?_
                        refine WL.bin .nil rfl rfl rfl rfl rfl rfl ?_
                        with_reducible refine WL.nil ?_
                        with_reducible refine Ex.thn_norm ?_
                        refine W.condN rfl (fun hc899 => ?_) (fun hc899 => ?_)
                        · replace hr := ite_neg hr hc899
                          with_reducible refine W.seq ?_
                          with_reducible refine W.region ?_
                          refine WL.assign .nil rfl rfl rfl rfl ?_
                          with_reducible refine WL.nil ?_
                          with_reducible refine Ex.thn_norm ?_
                          with_reducible refine W.ret ?_
                          with_reducible refine Ex.thn_ret ?_
                          obtain rfl := Option.some.inj hr
                          exact ⟨.inr rfl, _, (.cons (.tmp rfl) .nil), ⟨(Ext.st hE857 hS896), rfl⟩⟩
                        · replace hr := ite_pos hr hc899
                          with_reducible refine W.skip ?_
                          with_reducible refine Ex.thn_norm ?_
                          with_reducible refine W.seq ?_
                          with_reducible refine W.region ?_
                          refine WL.assign .nil rfl rfl rfl rfl ?_
                          with_reducible refine WL.nil ?_
                          with_reducible refine Ex.thn_norm ?_
                          with_reducible refine W.ret ?_
                          obtain rfl := Option.some.inj hr
                          exact ⟨.inr rfl, _, (.cons (.tmp rfl) .nil), ⟨(Ext.st hE857 hS896), rfl⟩⟩
end Go.Proofs.YtmodhnkjimpkbaaAb
