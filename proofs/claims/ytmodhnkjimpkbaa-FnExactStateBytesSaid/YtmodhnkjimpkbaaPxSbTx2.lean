import Derived.Test.YtmodhnkjimpkbaaPxSbTx1
import Derived.Test.YtmodhnkjimpkbaaPxSbD
import Derived.Test.YtmodhnkjimpkbaaAbInfoS
import Derived.KernelRfl
set_option linter.all false
set_option maxRecDepth 20000
namespace Go.Proofs.YtmodhnkjimpkbaaAb
open Go Go.Proofs
theorem f_laws_FnExactStateBytes_k {Δ : Prims} (g : Env Try.prog Δ) {lo n0 : Nat} {H0 F0 : Heap} (hS : St lo n0 H0 F0) {x1 : GState} {a2 : Option Addr} {cap3 : Nat} {a5 : Option Addr} {cap6 : Nat} (h4 : SR F0 (.slice a2 x1.Files.length cap3) x1.Files) (h7 : SR F0 (.slice a5 x1.Sessions.length cap6) x1.Sessions) {res : (Bool)} (hr : f_laws_FnExactStateBytes x1 = some res) :
    C Try.prog Δ n0 4 [.agg [.slice a2 x1.Files.length cap3, .slice a5 x1.Sessions.length cap6].toArray] n0 H0 (fun v n H => St n0 n H F0 ∧ v = .bool res) := by
  refine C.body Try.func4 rfl rfl ?_
  unfold f_laws_FnExactStateBytes at hr
  have hS0 : St n0 n0 H0 F0 := hS.low (Nat.le_refl _)
  have hE0 := Ext.refl n0 F0
  have hlo0 := hS0.lo
  with_reducible refine W.seq ?_
  with_reducible refine W.region ?_
  refine GL.box hS0 .nil (vc := [.slice a2 x1.Files.length cap3, .slice a5 x1.Sessions.length cap6]) rfl rfl rfl rfl rfl (by repeat' (first | exact List.forall_mem_nil _ | refine List.forall_mem_cons.2 ⟨?_, ?_⟩ | rfl)) (fun H8 hS9 ho10 hk11 => ?_)
  have fo12 := hS0.fnone (Nat.le_refl _)
  have hlon01 := hS9.lo
  have lt13 : n0 < (n0 + 1) := by omega
  refine WL.assign .nil rfl rfl rfl rfl ?_
  with_reducible refine WL.nil ?_
  with_reducible refine Ex.thn_norm ?_
  with_reducible refine W.seq ?_
  with_reducible refine W.region ?_
  refine WL.assign .nil rfl rfl rfl rfl ?_
  with_reducible refine WL.nil ?_
  with_reducible refine Ex.thn_norm ?_
  with_reducible refine W.seq ?_
  with_reducible refine W.region ?_
  refine WL.loadN .nil (l' := [.slice a2 x1.Files.length cap3, .slice a5 x1.Sessions.length cap6]) rfl rfl rfl Try.underlying38 rfl info38 rfl ho10 rfl rfl ?_
  refine WL.move .nil rfl rfl rfl rfl ?_
  obtain ⟨x14, hx14, hr⟩ := bnd_some hr
  refine GL.callP g.good .nil rfl rfl rfl rfl rfl rfl Try.func13 rfl rfl hS9.lo (f_laws_szState_k  g hS9 h4 h7 hx14) (fun v n15 H16 hn17 hk18 hp19 => ?_)
  obtain ⟨hS20, rfl⟩ := hp19
  have ho21 := (hk18 _ (by have := lt13; omega)).trans ho10
  have hS22 : St n0 n15 H16 F0 := ⟨by have := hS9.lo; omega, hS20.hb, hS20.fh⟩
  have hlon15 := hS22.lo
  refine WL.assign .nil rfl rfl rfl rfl ?_
  with_reducible refine WL.nil ?_
  with_reducible refine Ex.thn_norm ?_
  with_reducible refine W.seq ?_
  with_reducible refine W.seq ?_
  with_reducible refine W.region ?_
  refine WL.move .nil rfl rfl rfl rfl ?_
  refine WL.bin .nil rfl rfl rfl rfl rfl rfl ?_
  with_reducible refine WL.nil ?_
  with_reducible refine Ex.thn_norm ?_
  refine W.condD rfl (fun hc24 => ?_) (fun hc24 => ?_)
  · replace hr := ite_pos hr hc24
    with_reducible refine W.seq ?_
    with_reducible refine W.region ?_
    refine WL.assign .nil rfl rfl rfl rfl ?_
    with_reducible refine WL.nil ?_
    with_reducible refine Ex.thn_norm ?_
    with_reducible refine W.ret ?_
    with_reducible refine Ex.thn_ret ?_
    obtain rfl := Option.some.inj hr
    exact ⟨.inr rfl, _, (.cons (.tmp rfl) .nil), ⟨(Ext.st hE0 hS22), rfl⟩⟩
  · replace hr := ite_neg hr hc24
    with_reducible refine W.skip ?_
    with_reducible refine Ex.thn_norm ?_
    with_reducible refine W.seq ?_
    with_reducible refine W.region ?_
    refine WL.loadN .nil (l' := [.slice a2 x1.Files.length cap3, .slice a5 x1.Sessions.length cap6]) rfl rfl rfl Try.underlying38 rfl info38 rfl ho21 rfl rfl ?_
    obtain ⟨x25, hx25, hr⟩ := bnd_some hr
    refine GL.callP g.good .nil rfl rfl rfl rfl rfl rfl Try.func15 rfl rfl hS22.lo (f_laws_toState_k  g hS22 h4 h7 hx25) (fun v n26 H27 hn28 hk29 hp30 => ?_)
    obtain ⟨a31, cap32, a34, cap35, hS37, rfl, h33, h36, ap38⟩ := hp30
    have ho39 := (hk29 _ (by have := lt13; omega)).trans ho21
    have hS40 : St n0 n26 H27 F0 := ⟨by have := hS22.lo; omega, hS37.hb, hS37.fh⟩
    have hlon26 := hS40.lo
    have h41 := OW.lower (lo' := n0) h33 (by omega)
    have ap43 : idOf (.slice a31 x25.Files.length cap32) ≠ some n0 := fun hj => by have := (OW.id_lt h33 hj).1; have := lt13; omega
    have h44 := OW.lower (lo' := n0) h36 (by omega)
    have ap46 : idOf (.slice a34 x25.Sessions.length cap35) ≠ some n0 := fun hj => by have := (OW.id_lt h36 hj).1; have := lt13; omega
    obtain ⟨F47, hS48, hle49, h50, hf51⟩ := OW.freeze h41 hS40
    have fo52 := (hf51 _ ap43).trans fo12
    have h53 := OW.keepF h44 hle49 (fun i hi => (hf51 i (fun hj => (fun b h1 h2 => ap38 b h2 h1) i hj hi)).trans (OW.fnone h44 hi))
    obtain ⟨F55, hS56, hle57, h58, hf59⟩ := OW.freeze h53 hS48
    have fo60 := (hf59 _ ap46).trans fo52
    obtain ⟨x62, hx62, hr⟩ := bnd_some hr
    have hb68 := fun b hb => (OW.id_lt (i := b) h41 hb).2
    have hb69 := fun b hb => (OW.id_lt (i := b) h44 hb).2
    refine GL.callP g.good .nil rfl rfl rfl rfl rfl rfl Try.func14 rfl rfl hS40.lo (f_spec_StateBytes_k  g hS56 (h50.mono hle57) h58 hx62) (fun v n63 H64 hn65 hk66 hp67 => ?_)
    obtain ⟨a70, cap71, hS73, rfl, h72⟩ := hp67
    have ho74 := (hk66 _ (by have := lt13; omega)).trans ho39
    have h75 := OW.keep (n' := n63) h41 (by omega) (fun i hi => hk66 i (OW.id_lt h41 hi).2)
    have h76 := OW.keep (n' := n63) h44 (by omega) (fun i hi => hk66 i (OW.id_lt h44 hi).2)
    have hS77 : St n0 n63 H64 F0 := ⟨by have := hS40.lo; omega, hS73.hb, fun i o hi => (hk66 i (hS40.lt (hS40.fh i o hi))).trans (hS40.fh i o hi)⟩
    have hlon63 := hS77.lo
    have h78 := OW.lower (lo' := n0) (OW.downFl (hle49.trans hle57) h72) (by omega)
    have ap80 : idOf (.slice a70 x62.1.length cap71) ≠ some n0 := fun hj => by have := (OW.id_lt h72 hj).1; have := lt13; omega
    have ap81 : ∀ b, idOf (.slice a70 x62.1.length cap71) = some b → idOf (.slice a31 x25.Files.length cap32) ≠ some b := fun b hj hi => by have := (OW.id_lt h72 hj).1; have := hb68 b hi; omega
    have ap82 : ∀ b, idOf (.slice a70 x62.1.length cap71) = some b → idOf (.slice a34 x25.Sessions.length cap35) ≠ some b := fun b hj hi => by have := (OW.id_lt h72 hj).1; have := hb69 b hi; omega
    refine WL.move .nil rfl rfl rfl rfl ?_
    refine WL.extract .nil rfl rfl rfl rfl rfl ?_
    refine WL.extract .nil rfl rfl rfl rfl rfl ?_
    refine WL.assign .nil rfl rfl rfl rfl ?_
    refine WL.assign .nil rfl rfl rfl rfl ?_
    with_reducible refine WL.nil ?_
    with_reducible refine Ex.thn_norm ?_
    with_reducible refine W.seq ?_
    with_reducible refine W.region ?_
    refine WL.loadN .nil (l' := [.slice a2 x1.Files.length cap3, .slice a5 x1.Sessions.length cap6]) rfl rfl rfl Try.underlying38 rfl info38 rfl ho74 rfl rfl ?_
    obtain ⟨x83, hx83, hr⟩ := bnd_some hr
    have hb89 := fun b hb => (OW.id_lt (i := b) h75 hb).2
    have hb90 := fun b hb => (OW.id_lt (i := b) h76 hb).2
    have hb91 := fun b hb => (OW.id_lt (i := b) h78 hb).2
    refine GL.callP g.good .nil rfl rfl rfl rfl rfl rfl Try.func15 rfl rfl hS77.lo (f_laws_toState_k  g hS77 h4 h7 hx83) (fun v n84 H85 hn86 hk87 hp88 => ?_)
    obtain ⟨a92, cap93, a95, cap96, hS98, rfl, h94, h97, ap99⟩ := hp88
    have ho100 := (hk87 _ (by have := lt13; omega)).trans ho74
    have h101 := OW.keep (n' := n84) h75 (by omega) (fun i hi => hk87 i (OW.id_lt h75 hi).2)
    have h102 := OW.keep (n' := n84) h76 (by omega) (fun i hi => hk87 i (OW.id_lt h76 hi).2)
    have h103 := OW.keep (n' := n84) h78 (by omega) (fun i hi => hk87 i (OW.id_lt h78 hi).2)
    have hS104 : St n0 n84 H85 F0 := ⟨by have := hS77.lo; omega, hS98.hb, hS98.fh⟩
    have hlon84 := hS104.lo
    have h105 := OW.lower (lo' := n0) h94 (by omega)
    have ap107 : idOf (.slice a92 x83.Files.length cap93) ≠ some n0 := fun hj => by have := (OW.id_lt h94 hj).1; have := lt13; omega
    have ap108 : ∀ b, idOf (.slice a92 x83.Files.length cap93) = some b → idOf (.slice a31 x25.Files.length cap32) ≠ some b := fun b hj hi => by have := (OW.id_lt h94 hj).1; have := hb89 b hi; omega
    have ap109 : ∀ b, idOf (.slice a92 x83.Files.length cap93) = some b → idOf (.slice a34 x25.Sessions.length cap35) ≠ some b := fun b hj hi => by have := (OW.id_lt h94 hj).1; have := hb90 b hi; omega
    have ap110 : ∀ b, idOf (.slice a92 x83.Files.length cap93) = some b → idOf (.slice a70 x62.1.length cap71) ≠ some b := fun b hj hi => by have := (OW.id_lt h94 hj).1; have := hb91 b hi; omega
    have h111 := OW.lower (lo' := n0) h97 (by omega)
    have ap113 : idOf (.slice a95 x83.Sessions.length cap96) ≠ some n0 := fun hj => by have := (OW.id_lt h97 hj).1; have := lt13; omega
    have ap114 : ∀ b, idOf (.slice a95 x83.Sessions.length cap96) = some b → idOf (.slice a31 x25.Files.length cap32) ≠ some b := fun b hj hi => by have := (OW.id_lt h97 hj).1; have := hb89 b hi; omega
    have ap115 : ∀ b, idOf (.slice a95 x83.Sessions.length cap96) = some b → idOf (.slice a34 x25.Sessions.length cap35) ≠ some b := fun b hj hi => by have := (OW.id_lt h97 hj).1; have := hb90 b hi; omega
    have ap116 : ∀ b, idOf (.slice a95 x83.Sessions.length cap96) = some b → idOf (.slice a70 x62.1.length cap71) ≠ some b := fun b hj hi => by have := (OW.id_lt h97 hj).1; have := hb91 b hi; omega
    refine GL.alloc hS104 .nil (zc := [.slice none 0 0, .slice none 0 0]) rfl rfl rfl info26 rfl rfl rfl (fun H117 hS118 ho119 hk120 => ?_)
    have fo121 := hS104.fnone (Nat.le_refl _)
    have ap123 : idOf (.slice a31 x25.Files.length cap32) ≠ some n84 := fun hj => by have := OW.id_lt h101 hj; omega
    have ap124 : idOf (.slice a34 x25.Sessions.length cap35) ≠ some n84 := fun hj => by have := OW.id_lt h102 hj; omega
    have ap125 : idOf (.slice a70 x62.1.length cap71) ≠ some n84 := fun hj => by have := OW.id_lt h103 hj; omega
    have ap126 : idOf (.slice a92 x83.Files.length cap93) ≠ some n84 := fun hj => by have := OW.id_lt h105 hj; omega
    have ap127 : idOf (.slice a95 x83.Sessions.length cap96) ≠ some n84 := fun hj => by have := OW.id_lt h111 hj; omega
    have ho128 := (hk120 _ (by have := lt13; omega)).trans ho100
    have h129 := OW.keep (n' := (n84 + 1)) h101 (by omega) (fun i hi => hk120 i (OW.id_lt h101 hi).2)
    have h130 := OW.keep (n' := (n84 + 1)) h102 (by omega) (fun i hi => hk120 i (OW.id_lt h102 hi).2)
    have h131 := OW.keep (n' := (n84 + 1)) h103 (by omega) (fun i hi => hk120 i (OW.id_lt h103 hi).2)
    have h132 := OW.keep (n' := (n84 + 1)) h105 (by omega) (fun i hi => hk120 i (OW.id_lt h105 hi).2)
    have h133 := OW.keep (n' := (n84 + 1)) h111 (by omega) (fun i hi => hk120 i (OW.id_lt h111 hi).2)
    have hlon841 := hS118.lo
    have lt122 : n84 < (n84 + 1) := by omega
    refine GL.store hS118 .nil (vc := [.slice a92 x83.Files.length cap93, .slice a95 x83.Sessions.length cap96]) (c' := [.slice a92 x83.Files.length cap93, .slice a95 x83.Sessions.length cap96]) rfl rfl rfl info26 rfl rfl rfl rfl ho119 fo121 (Nat.le_of_ble_eq_true rfl) (by omega) (by repeat' (first | exact List.forall_mem_nil _ | refine List.forall_mem_cons.2 ⟨?_, ?_⟩ | rfl)) rfl (fun H134 hS135 ho136 hk137 => ?_)
    have ho138 := (hk137 _ (by omega)).trans ho128
    have h139 := OW.keep h129 (Nat.le_refl _) (fun i hi => hk137 i (fun hj => ap123 (hj ▸ hi)))
    have h140 := OW.keep h130 (Nat.le_refl _) (fun i hi => hk137 i (fun hj => ap124 (hj ▸ hi)))
    have h141 := OW.keep h131 (Nat.le_refl _) (fun i hi => hk137 i (fun hj => ap125 (hj ▸ hi)))
    have h142 := OW.keep h132 (Nat.le_refl _) (fun i hi => hk137 i (fun hj => ap126 (hj ▸ hi)))
    have h143 := OW.keep h133 (Nat.le_refl _) (fun i hi => hk137 i (fun hj => ap127 (hj ▸ hi)))
    with_reducible refine WL.nil ?_
    with_reducible refine Ex.thn_norm ?_
    with_reducible refine W.seq ?_
    with_reducible refine W.region ?_
    refine WL.loadN .nil (l' := [.slice a92 x83.Files.length cap93, .slice a95 x83.Sessions.length cap96]) rfl rfl rfl Try.underlying26 rfl info26 rfl ho136 rfl rfl ?_
    obtain ⟨F144, hS145, hle146, h147, hf148⟩ := OW.freeze h142 hS135
    have fo149 := (hf148 _ ap107).trans fo12
    have fo150 := (hf148 _ ap126).trans fo121
    have h151 := OW.keepF h139 hle146 (fun i hi => (hf148 i (fun hj => ap108 i hj hi)).trans (OW.fnone h139 hi))
    have h152 := OW.keepF h140 hle146 (fun i hi => (hf148 i (fun hj => ap109 i hj hi)).trans (OW.fnone h140 hi))
    have h153 := OW.keepF h141 hle146 (fun i hi => (hf148 i (fun hj => ap110 i hj hi)).trans (OW.fnone h141 hi))
    have h154 := OW.keepF h143 hle146 (fun i hi => (hf148 i (fun hj => (fun b h1 h2 => ap99 b h2 h1) i hj hi)).trans (OW.fnone h143 hi))
    obtain ⟨F156, hS157, hle158, h159, hf160⟩ := OW.freeze h154 hS145
    have fo161 := (hf160 _ ap113).trans fo149
    have fo162 := (hf160 _ ap127).trans fo150
    have h163 := OW.keepF h151 hle158 (fun i hi => (hf160 i (fun hj => ap114 i hj hi)).trans (OW.fnone h151 hi))
    have h164 := OW.keepF h152 hle158 (fun i hi => (hf160 i (fun hj => ap115 i hj hi)).trans (OW.fnone h152 hi))
    have h165 := OW.keepF h153 hle158 (fun i hi => (hf160 i (fun hj => ap116 i hj hi)).trans (OW.fnone h153 hi))
    obtain ⟨x167, hx167, hr⟩ := bnd_some hr
    have hb173 := fun b hb => (OW.id_lt (i := b) h139 hb).2
    have hb174 := fun b hb => (OW.id_lt (i := b) h140 hb).2
    have hb175 := fun b hb => (OW.id_lt (i := b) h141 hb).2
    have hb176 := fun b hb => (OW.id_lt (i := b) h142 hb).2
    have hb177 := fun b hb => (OW.id_lt (i := b) h143 hb).2
    refine GL.callP g.good .nil rfl rfl rfl rfl rfl rfl Try.func16 rfl rfl hS135.lo (f_impl_StateBytes_k  g hS157 (h147.mono hle158) h159 hx167) (fun v n168 H169 hn170 hk171 hp172 => ?_)
    obtain ⟨a178, cap179, hS181, rfl, h180⟩ := hp172
    have ho182 := (hk171 _ (by have := lt13; omega)).trans ho138
    have ho183 := (hk171 _ (by have := lt122; omega)).trans ho136
    have h184 := OW.keep (n' := n168) h139 (by omega) (fun i hi => hk171 i (OW.id_lt h139 hi).2)
    have h185 := OW.keep (n' := n168) h140 (by omega) (fun i hi => hk171 i (OW.id_lt h140 hi).2)
    have h186 := OW.keep (n' := n168) h141 (by omega) (fun i hi => hk171 i (OW.id_lt h141 hi).2)
    have h187 := OW.keep (n' := n168) h142 (by omega) (fun i hi => hk171 i (OW.id_lt h142 hi).2)
    have h188 := OW.keep (n' := n168) h143 (by omega) (fun i hi => hk171 i (OW.id_lt h143 hi).2)
    have hS189 : St n0 n168 H169 F0 := ⟨by have := hS135.lo; omega, hS181.hb, fun i o hi => (hk171 i (hS135.lt (hS135.fh i o hi))).trans (hS135.fh i o hi)⟩
    have hlon168 := hS189.lo
    have h190 := OW.lower (lo' := n0) (OW.downFl (hle146.trans hle158) h180) (by omega)
    have ap192 : idOf (.slice a178 x167.1.length cap179) ≠ some n0 := fun hj => by have := (OW.id_lt h180 hj).1; have := lt13; omega
    have ap193 : idOf (.slice a178 x167.1.length cap179) ≠ some n84 := fun hj => by have := (OW.id_lt h180 hj).1; have := lt122; omega
    have ap194 : ∀ b, idOf (.slice a178 x167.1.length cap179) = some b → idOf (.slice a31 x25.Files.length cap32) ≠ some b := fun b hj hi => by have := (OW.id_lt h180 hj).1; have := hb173 b hi; omega
    have ap195 : ∀ b, idOf (.slice a178 x167.1.length cap179) = some b → idOf (.slice a34 x25.Sessions.length cap35) ≠ some b := fun b hj hi => by have := (OW.id_lt h180 hj).1; have := hb174 b hi; omega
    have ap196 : ∀ b, idOf (.slice a178 x167.1.length cap179) = some b → idOf (.slice a70 x62.1.length cap71) ≠ some b := fun b hj hi => by have := (OW.id_lt h180 hj).1; have := hb175 b hi; omega
    have ap197 : ∀ b, idOf (.slice a178 x167.1.length cap179) = some b → idOf (.slice a92 x83.Files.length cap93) ≠ some b := fun b hj hi => by have := (OW.id_lt h180 hj).1; have := hb176 b hi; omega
    have ap198 : ∀ b, idOf (.slice a178 x167.1.length cap179) = some b → idOf (.slice a95 x83.Sessions.length cap96) ≠ some b := fun b hj hi => by have := (OW.id_lt h180 hj).1; have := hb177 b hi; omega
    refine WL.move .nil rfl rfl rfl rfl ?_
    refine WL.extract .nil rfl rfl rfl rfl rfl ?_
    refine WL.extract .nil rfl rfl rfl rfl rfl ?_
    refine WL.assign .nil rfl rfl rfl rfl ?_
    refine WL.assign .nil rfl rfl rfl rfl ?_
    with_reducible refine WL.nil ?_
    with_reducible refine Ex.thn_norm ?_
    with_reducible refine W.seq ?_
    with_reducible refine W.seq ?_
    refine W.cut (fun fr n H => ∃ (x254 : Bool) (F : Heap), fr = [(1, .pointer (some ⟨n0, 0, none⟩)), (4, .slice a70 x62.1.length cap71), (5, .int .i64 x62.2), (6, .pointer (some ⟨n84, 0, none⟩)), (7, .slice a178 x167.1.length cap179), (8, .int .i64 x167.2), (40, .bool x254)] ∧ St n0 n H F ∧ Ext n0 F0 n F ∧ H n0 = some (.row 1 [.slice a2 x1.Files.length cap3, .slice a5 x1.Sessions.length cap6]) ∧ F n0 = none ∧ H n84 = some (.row 1 [.slice a92 x83.Files.length cap93, .slice a95 x83.Sessions.length cap96]) ∧ F n84 = none ∧ OW n0 n H F (.slice a70 x62.1.length cap71) x62.1 ∧ OW n0 n H F (.slice a178 x167.1.length cap179) x167.1 ∧ SR F (.slice a2 x1.Files.length cap3) x1.Files ∧ SR F (.slice a5 x1.Sessions.length cap6) x1.Sessions ∧ OW n0 n H F (.slice a92 x83.Files.length cap93) x83.Files ∧ OW n0 n H F (.slice a95 x83.Sessions.length cap96) x83.Sessions ∧ idOf (.slice a70 x62.1.length cap71) ≠ some n0 ∧ idOf (.slice a70 x62.1.length cap71) ≠ some n84 ∧ idOf (.slice a178 x167.1.length cap179) ≠ some n0 ∧ idOf (.slice a178 x167.1.length cap179) ≠ some n84 ∧ (∀ b, idOf (.slice a178 x167.1.length cap179) = some b → idOf (.slice a70 x62.1.length cap71) ≠ some b) ∧ idOf (.slice a92 x83.Files.length cap93) ≠ some n0 ∧ idOf (.slice a92 x83.Files.length cap93) ≠ some n84 ∧ (∀ b, idOf (.slice a92 x83.Files.length cap93) = some b → idOf (.slice a70 x62.1.length cap71) ≠ some b) ∧ (∀ b, idOf (.slice a92 x83.Files.length cap93) = some b → idOf (.slice a178 x167.1.length cap179) ≠ some b) ∧ idOf (.slice a95 x83.Sessions.length cap96) ≠ some n0 ∧ idOf (.slice a95 x83.Sessions.length cap96) ≠ some n84 ∧ (∀ b, idOf (.slice a95 x83.Sessions.length cap96) = some b → idOf (.slice a70 x62.1.length cap71) ≠ some b) ∧ (∀ b, idOf (.slice a95 x83.Sessions.length cap96) = some b → idOf (.slice a178 x167.1.length cap179) ≠ some b) ∧ (∀ b, idOf (.slice a95 x83.Sessions.length cap96) = some b → idOf (.slice a92 x83.Files.length cap93) ≠ some b) ∧ f_laws_FnExactStateBytes_J0 x1 x83 x167 x62 x254 = some res) ?_ ?_
    · with_reducible refine W.region ?_
      refine WL.move .nil rfl rfl rfl rfl ?_
      refine WL.move .nil rfl rfl rfl rfl ?_
      obtain ⟨F856, hS857, hle858, h859, hf860⟩ := OW.freeze h190 hS189
      have fo861 := (hf860 _ ap192).trans fo12
      have fo862 := (hf860 _ ap193).trans fo121
      have h863 := OW.keepF h184 hle858 (fun i hi => (hf860 i (fun hj => ap194 i hj hi)).trans (OW.fnone h184 hi))
      have h864 := OW.keepF h185 hle858 (fun i hi => (hf860 i (fun hj => ap195 i hj hi)).trans (OW.fnone h185 hi))
      have h865 := OW.keepF h186 hle858 (fun i hi => (hf860 i (fun hj => ap196 i hj hi)).trans (OW.fnone h186 hi))
      have h866 := OW.keepF h187 hle858 (fun i hi => (hf860 i (fun hj => ap197 i hj hi)).trans (OW.fnone h187 hi))
      have h867 := OW.keepF h188 hle858 (fun i hi => (hf860 i (fun hj => ap198 i hj hi)).trans (OW.fnone h188 hi))
      obtain ⟨F869, hS870, hle871, h872, hf873⟩ := OW.freeze h865 hS857
      have fo874 := (hf873 _ ap80).trans fo861
      have fo875 := (hf873 _ ap125).trans fo862
      have h876 := OW.keepF h863 hle871 (fun i hi => (hf873 i (fun hj => ap81 i hj hi)).trans (OW.fnone h863 hi))
      have h877 := OW.keepF h864 hle871 (fun i hi => (hf873 i (fun hj => ap82 i hj hi)).trans (OW.fnone h864 hi))
      have h878 := OW.keepF h866 hle871 (fun i hi => (hf873 i (fun hj => (fun b h1 h2 => ap110 b h2 h1) i hj hi)).trans (OW.fnone h866 hi))
      have h879 := OW.keepF h867 hle871 (fun i hi => (hf873 i (fun hj => (fun b h1 h2 => ap116 b h2 h1) i hj hi)).trans (OW.fnone h867 hi))
      obtain ⟨x881, hx881, hr⟩ := bnd_some hr
      have hb887 := fun b hb => (OW.id_lt (i := b) h184 hb).2
      have hb888 := fun b hb => (OW.id_lt (i := b) h185 hb).2
      have hb889 := fun b hb => (OW.id_lt (i := b) h186 hb).2
      have hb890 := fun b hb => (OW.id_lt (i := b) h187 hb).2
      have hb891 := fun b hb => (OW.id_lt (i := b) h188 hb).2
      have hb892 := fun b hb => (OW.id_lt (i := b) h190 hb).2
      refine GL.callP g.good .nil rfl rfl rfl rfl rfl rfl Try.func9 rfl rfl hS189.lo (f_laws_eqByteS_k  g hS870 (h859.mono hle871) h872 hx881) (fun v n882 H883 hn884 hk885 hp886 => ?_)
      obtain ⟨hS893, rfl⟩ := hp886
      have ho894 := (hk885 _ (by have := lt13; omega)).trans ho182
      have ho895 := (hk885 _ (by have := lt122; omega)).trans ho183
      have h896 := OW.keep (n' := n882) h184 (by omega) (fun i hi => hk885 i (OW.id_lt h184 hi).2)
      have h897 := OW.keep (n' := n882) h185 (by omega) (fun i hi => hk885 i (OW.id_lt h185 hi).2)
      have h898 := OW.keep (n' := n882) h186 (by omega) (fun i hi => hk885 i (OW.id_lt h186 hi).2)
      have h899 := OW.keep (n' := n882) h187 (by omega) (fun i hi => hk885 i (OW.id_lt h187 hi).2)
      have h900 := OW.keep (n' := n882) h188 (by omega) (fun i hi => hk885 i (OW.id_lt h188 hi).2)
      have h901 := OW.keep (n' := n882) h190 (by omega) (fun i hi => hk885 i (OW.id_lt h190 hi).2)
      have hS902 : St n0 n882 H883 F0 := ⟨by have := hS189.lo; omega, hS893.hb, fun i o hi => (hk885 i (hS189.lt (hS189.fh i o hi))).trans (hS189.fh i o hi)⟩
      have hlon882 := hS902.lo
      refine WL.not .nil rfl rfl rfl rfl ?_
      refine WL.move .nil rfl rfl rfl rfl ?_
      refine WL.guard rfl rfl rfl (fun hg903 => ?_) (fun hg903 => ?_)
      · replace hr := iteB_pos hr hg903
        refine WL.skip .nil rfl rfl ?_
        refine WL.skip .nil rfl rfl ?_
        refine WL.skip .nil rfl rfl ?_
        refine WL.pick .nil rfl rfl rfl rfl rfl ?_
        with_reducible refine WL.nil ?_
        with_reducible refine Ex.thn_norm ?_
        exact ⟨[(1, .pointer (some ⟨n0, 0, none⟩)), (4, .slice a70 x62.1.length cap71), (5, .int .i64 x62.2), (6, .pointer (some ⟨n84, 0, none⟩)), (7, .slice a178 x167.1.length cap179), (8, .int .i64 x167.2), (40, .bool true)], (Fr.le_cons rfl (Fr.le_cons rfl (Fr.le_cons rfl (Fr.le_cons rfl (Fr.le_cons rfl (Fr.le_cons rfl (Fr.le_cons rfl Fr.le_nil))))))), true, F0, rfl, hS902, (hE0.up (by omega)), ho894, fo12, ho895, fo121, h898, h901, h4, h7, h899, h900, ap80, ap125, ap192, ap193, ap196, ap107, ap126, ap110, (fun b h1 h2 => ap197 b h2 h1), ap113, ap127, ap116, (fun b h1 h2 => ap198 b h2 h1), ap99, hr⟩
      · replace hr := iteB_neg hr hg903
        refine WL.move .nil rfl rfl rfl rfl ?_
        refine WL.move .nil rfl rfl rfl rfl ?_
        refine WL.bin .nil rfl rfl rfl rfl rfl rfl ?_
        refine WL.pick .nil rfl rfl rfl rfl rfl ?_
        with_reducible refine WL.nil ?_
        with_reducible refine Ex.thn_norm ?_
        exact ⟨[(1, .pointer (some ⟨n0, 0, none⟩)), (4, .slice a70 x62.1.length cap71), (5, .int .i64 x62.2), (6, .pointer (some ⟨n84, 0, none⟩)), (7, .slice a178 x167.1.length cap179), (8, .int .i64 x167.2), (40, .bool (!decide (x167.2 = x62.2)))], (Fr.le_cons rfl (Fr.le_cons rfl (Fr.le_cons rfl (Fr.le_cons rfl (Fr.le_cons rfl (Fr.le_cons rfl (Fr.le_cons rfl Fr.le_nil))))))), (!decide (x167.2 = x62.2)), F0, rfl, hS902, (hE0.up (by omega)), ho894, fo12, ho895, fo121, h898, h901, h4, h7, h899, h900, ap80, ap125, ap192, ap193, ap196, ap107, ap126, ap110, (fun b h1 h2 => ap197 b h2 h1), ap113, ap127, ap116, (fun b h1 h2 => ap198 b h2 h1), ap99, hr⟩
    · intro _ n247 H248 hI
      obtain ⟨x254, F249, rfl, hS250, hE251, ho257, fo258, ho261, fo262, h252, h253, h255, h256, h259, h260, ap263, ap264, ap265, ap266, ap267, ap268, ap269, ap270, ap271, ap272, ap273, ap274, ap275, ap276, hr⟩ := hI
      have lt277 := hS250.lt ho257
      have lt278 := hS250.lt ho261
      have hlen247 := hE251.le
      have hlon247 := hS250.lo
      unfold f_laws_FnExactStateBytes_J0 at hr
      refine W.cond rfl (fun hc280 => ?_) (fun hc280 => ?_)
      · replace hr := iteB_pos hr hc280
        with_reducible refine W.seq ?_
        with_reducible refine W.region ?_
        refine WL.assign .nil rfl rfl rfl rfl ?_
        with_reducible refine WL.nil ?_
        with_reducible refine Ex.thn_norm ?_
        with_reducible refine W.ret ?_
        with_reducible refine Ex.thn_ret ?_
        obtain rfl := Option.some.inj hr
        exact ⟨.inr rfl, _, (.cons (.tmp rfl) .nil), ⟨(Ext.st hE251 hS250), rfl⟩⟩
      · replace hr := iteB_neg hr hc280
        with_reducible refine W.skip ?_
        with_reducible refine Ex.thn_norm ?_
        with_reducible refine W.seq ?_
        with_reducible refine W.seq ?_
        refine W.regionD [0, 1, 2, 3, 4] [false, false, false, false, false] rfl rfl (by kernel_rfl) (by kernel_rfl) (by (conv => lhs; simp only [List.map_cons, List.map_nil, List.getD_cons_zero, List.getD_cons_succ]) <;> rfl) ?_
        refine WL.loadN .r (l' := [.slice a92 x83.Files.length cap93, .slice a95 x83.Sessions.length cap96]) rfl rfl rfl Try.underlying26 rfl info26 rfl ho261 rfl rfl ?_
        refine WL.loadN .r (l' := [.slice a2 x1.Files.length cap3, .slice a5 x1.Sessions.length cap6]) rfl rfl rfl Try.underlying38 rfl info38 rfl ho257 rfl rfl ?_
        obtain ⟨x281, hx281, hr⟩ := bnd_some hr
        have hb287 := fun b hb => (OW.id_lt (i := b) h252 hb).2
        have hb288 := fun b hb => (OW.id_lt (i := b) h253 hb).2
        have hb289 := fun b hb => (OW.id_lt (i := b) h259 hb).2
        have hb290 := fun b hb => (OW.id_lt (i := b) h260 hb).2
        refine GL.callP g.good .r rfl rfl rfl rfl rfl rfl Try.func15 rfl rfl (Nat.le_refl _) (f_laws_toState_k  g hS250 h255 h256 hx281) (fun v n282 H283 hn284 hk285 hp286 => ?_)
        obtain ⟨a291, cap292, a294, cap295, hS297, rfl, h293, h296, ap298⟩ := hp286
        have ho299 := (hk285 _ (by have := lt277; omega)).trans ho257
        have ho300 := (hk285 _ (by have := lt278; omega)).trans ho261
        have h301 := OW.keep (n' := n282) h252 (by omega) (fun i hi => hk285 i (OW.id_lt h252 hi).2)
        have h302 := OW.keep (n' := n282) h253 (by omega) (fun i hi => hk285 i (OW.id_lt h253 hi).2)
        have h303 := OW.keep (n' := n282) h259 (by omega) (fun i hi => hk285 i (OW.id_lt h259 hi).2)
        have h304 := OW.keep (n' := n282) h260 (by omega) (fun i hi => hk285 i (OW.id_lt h260 hi).2)
        have hS305 : St n0 n282 H283 F249 := ⟨by have := hS250.lo; omega, hS297.hb, hS297.fh⟩
        have hlon282 := hS305.lo
        have h306 := OW.lower (lo' := n0) h293 (by omega)
        have ap308 : idOf (.slice a291 x281.Files.length cap292) ≠ some n0 := fun hj => by have := (OW.id_lt h293 hj).1; have := lt277; omega
        have ap309 : idOf (.slice a291 x281.Files.length cap292) ≠ some n84 := fun hj => by have := (OW.id_lt h293 hj).1; have := lt278; omega
        have ap310 : ∀ b, idOf (.slice a291 x281.Files.length cap292) = some b → idOf (.slice a70 x62.1.length cap71) ≠ some b := fun b hj hi => by have := (OW.id_lt h293 hj).1; have := hb287 b hi; omega
        have ap311 : ∀ b, idOf (.slice a291 x281.Files.length cap292) = some b → idOf (.slice a178 x167.1.length cap179) ≠ some b := fun b hj hi => by have := (OW.id_lt h293 hj).1; have := hb288 b hi; omega
        have ap312 : ∀ b, idOf (.slice a291 x281.Files.length cap292) = some b → idOf (.slice a92 x83.Files.length cap93) ≠ some b := fun b hj hi => by have := (OW.id_lt h293 hj).1; have := hb289 b hi; omega
        have ap313 : ∀ b, idOf (.slice a291 x281.Files.length cap292) = some b → idOf (.slice a95 x83.Sessions.length cap96) ≠ some b := fun b hj hi => by have := (OW.id_lt h293 hj).1; have := hb290 b hi; omega
        have h314 := OW.lower (lo' := n0) h296 (by omega)
        have ap316 : idOf (.slice a294 x281.Sessions.length cap295) ≠ some n0 := fun hj => by have := (OW.id_lt h296 hj).1; have := lt277; omega
        have ap317 : idOf (.slice a294 x281.Sessions.length cap295) ≠ some n84 := fun hj => by have := (OW.id_lt h296 hj).1; have := lt278; omega
        have ap318 : ∀ b, idOf (.slice a294 x281.Sessions.length cap295) = some b → idOf (.slice a70 x62.1.length cap71) ≠ some b := fun b hj hi => by have := (OW.id_lt h296 hj).1; have := hb287 b hi; omega
        have ap319 : ∀ b, idOf (.slice a294 x281.Sessions.length cap295) = some b → idOf (.slice a178 x167.1.length cap179) ≠ some b := fun b hj hi => by have := (OW.id_lt h296 hj).1; have := hb288 b hi; omega
        have ap320 : ∀ b, idOf (.slice a294 x281.Sessions.length cap295) = some b → idOf (.slice a92 x83.Files.length cap93) ≠ some b := fun b hj hi => by have := (OW.id_lt h296 hj).1; have := hb289 b hi; omega
        have ap321 : ∀ b, idOf (.slice a294 x281.Sessions.length cap295) = some b → idOf (.slice a95 x83.Sessions.length cap96) ≠ some b := fun b hj hi => by have := (OW.id_lt h296 hj).1; have := hb290 b hi; omega
        obtain ⟨F322, hS323, hle324, h325, hf326⟩ := OW.freeze h303 hS305
        have fo327 := (hf326 _ ap268).trans fo258
        have fo328 := (hf326 _ ap269).trans fo262
        have h329 := OW.keepF h301 hle324 (fun i hi => (hf326 i (fun hj => ap270 i hj hi)).trans (OW.fnone h301 hi))
        have h330 := OW.keepF h302 hle324 (fun i hi => (hf326 i (fun hj => ap271 i hj hi)).trans (OW.fnone h302 hi))
        have h331 := OW.keepF h304 hle324 (fun i hi => (hf326 i (fun hj => (fun b h1 h2 => ap276 b h2 h1) i hj hi)).trans (OW.fnone h304 hi))
        have h332 := OW.keepF h306 hle324 (fun i hi => (hf326 i (fun hj => (fun b h1 h2 => ap312 b h2 h1) i hj hi)).trans (OW.fnone h306 hi))
        have h333 := OW.keepF h314 hle324 (fun i hi => (hf326 i (fun hj => (fun b h1 h2 => ap320 b h2 h1) i hj hi)).trans (OW.fnone h314 hi))
        obtain ⟨F335, hS336, hle337, h338, hf339⟩ := OW.freeze h331 hS323
        have fo340 := (hf339 _ ap272).trans fo327
        have fo341 := (hf339 _ ap273).trans fo328
        have h342 := OW.keepF h329 hle337 (fun i hi => (hf339 i (fun hj => ap274 i hj hi)).trans (OW.fnone h329 hi))
        have h343 := OW.keepF h330 hle337 (fun i hi => (hf339 i (fun hj => ap275 i hj hi)).trans (OW.fnone h330 hi))
        have h344 := OW.keepF h332 hle337 (fun i hi => (hf339 i (fun hj => (fun b h1 h2 => ap313 b h2 h1) i hj hi)).trans (OW.fnone h332 hi))
        have h345 := OW.keepF h333 hle337 (fun i hi => (hf339 i (fun hj => (fun b h1 h2 => ap321 b h2 h1) i hj hi)).trans (OW.fnone h333 hi))
        obtain ⟨F347, hS348, hle349, h350, hf351⟩ := OW.freeze h344 hS336
        have fo352 := (hf351 _ ap308).trans fo340
        have fo353 := (hf351 _ ap309).trans fo341
        have h354 := OW.keepF h342 hle349 (fun i hi => (hf351 i (fun hj => ap310 i hj hi)).trans (OW.fnone h342 hi))
        have h355 := OW.keepF h343 hle349 (fun i hi => (hf351 i (fun hj => ap311 i hj hi)).trans (OW.fnone h343 hi))
        have h356 := OW.keepF h345 hle349 (fun i hi => (hf351 i (fun hj => (fun b h1 h2 => ap298 b h2 h1) i hj hi)).trans (OW.fnone h345 hi))
        obtain ⟨F358, hS359, hle360, h361, hf362⟩ := OW.freeze h356 hS348
        have fo363 := (hf362 _ ap316).trans fo352
        have fo364 := (hf362 _ ap317).trans fo353
        have h365 := OW.keepF h354 hle360 (fun i hi => (hf362 i (fun hj => ap318 i hj hi)).trans (OW.fnone h354 hi))
        have h366 := OW.keepF h355 hle360 (fun i hi => (hf362 i (fun hj => ap319 i hj hi)).trans (OW.fnone h355 hi))
        obtain ⟨x368, hx368, hr⟩ := bnd_some hr
        have hb374 := fun b hb => (OW.id_lt (i := b) h301 hb).2
        have hb375 := fun b hb => (OW.id_lt (i := b) h302 hb).2
        have hb376 := fun b hb => (OW.id_lt (i := b) h303 hb).2
        have hb377 := fun b hb => (OW.id_lt (i := b) h304 hb).2
        have hb378 := fun b hb => (OW.id_lt (i := b) h306 hb).2
        have hb379 := fun b hb => (OW.id_lt (i := b) h314 hb).2
        refine GL.callP g.good .r rfl rfl rfl rfl rfl rfl Try.func8 rfl rfl (Nat.le_refl _) (f_laws_eqState_k  g hS359 (((h325.mono hle337).mono hle349).mono hle360) ((h338.mono hle349).mono hle360) (h350.mono hle360) h361 hx368) (fun v n369 H370 hn371 hk372 hp373 => ?_)
        obtain ⟨hS380, rfl⟩ := hp373
        have ho381 := (hk372 _ (by have := lt277; omega)).trans ho299
        have ho382 := (hk372 _ (by have := lt278; omega)).trans ho300
        have h383 := OW.keep (n' := n369) h301 (by omega) (fun i hi => hk372 i (OW.id_lt h301 hi).2)
        have h384 := OW.keep (n' := n369) h302 (by omega) (fun i hi => hk372 i (OW.id_lt h302 hi).2)
        have h385 := OW.keep (n' := n369) h303 (by omega) (fun i hi => hk372 i (OW.id_lt h303 hi).2)
        have h386 := OW.keep (n' := n369) h304 (by omega) (fun i hi => hk372 i (OW.id_lt h304 hi).2)
        have h387 := OW.keep (n' := n369) h306 (by omega) (fun i hi => hk372 i (OW.id_lt h306 hi).2)
        have h388 := OW.keep (n' := n369) h314 (by omega) (fun i hi => hk372 i (OW.id_lt h314 hi).2)
        have hS389 : St n0 n369 H370 F249 := ⟨by have := hS305.lo; omega, hS380.hb, fun i o hi => (hk372 i (hS305.lt (hS305.fh i o hi))).trans (hS305.fh i o hi)⟩
        have hlon369 := hS389.lo
        refine WL.not .r rfl rfl rfl rfl ?_
        with_reducible refine WL.nil ?_
        with_reducible refine Ex.thn_norm ?_
        refine W.cond rfl (fun hc391 => ?_) (fun hc391 => ?_)
        · replace hr := iteB_pos hr hc391
          with_reducible refine W.seq ?_
          with_reducible refine W.region ?_
          refine WL.assign .nil rfl rfl rfl rfl ?_
          with_reducible refine WL.nil ?_
          with_reducible refine Ex.thn_norm ?_
          with_reducible refine W.ret ?_
          with_reducible refine Ex.thn_ret ?_
          obtain rfl := Option.some.inj hr
          exact ⟨.inr rfl, _, (.cons (.tmp rfl) .nil), ⟨(Ext.st hE251 hS389), rfl⟩⟩
        · replace hr := iteB_neg hr hc391
          with_reducible refine W.skip ?_
          with_reducible refine Ex.thn_norm ?_
          with_reducible refine W.seq ?_
          with_reducible refine W.region ?_
          refine WL.assign .nil rfl rfl rfl rfl ?_
          with_reducible refine WL.nil ?_
          with_reducible refine Ex.thn_norm ?_
          with_reducible refine W.seq ?_
          with_reducible refine W.region ?_
          refine WL.loadN .nil (l' := [.slice a92 x83.Files.length cap93, .slice a95 x83.Sessions.length cap96]) rfl rfl rfl Try.underlying26 rfl info26 rfl ho382 rfl rfl ?_
          refine WL.move .nil rfl rfl rfl rfl ?_
          refine GL.callIn (args := [.agg [.slice a92 x83.Files.length cap93, .slice a95 x83.Sessions.length cap96].toArray, .int .i64 1]) .nil n0 rfl rfl rfl rfl rfl rfl Try.func11 rfl rfl (Nat.le_refl _) hS389.lo ?_
          refine C.body Try.func11 rfl rfl ?_
          with_reducible refine W.seq ?_
          with_reducible refine W.region ?_
          refine GL.box hS389 .nil (vc := [.slice a92 x83.Files.length cap93, .slice a95 x83.Sessions.length cap96]) rfl rfl rfl rfl rfl (by repeat' (first | exact List.forall_mem_nil _ | refine List.forall_mem_cons.2 ⟨?_, ?_⟩ | rfl)) (fun H392 hS393 ho394 hk395 => ?_)
          have fo396 := hS389.fnone (Nat.le_refl _)
          have ap398 : idOf (.slice a70 x62.1.length cap71) ≠ some n369 := fun hj => by have := OW.id_lt h383 hj; omega
          have ap399 : idOf (.slice a178 x167.1.length cap179) ≠ some n369 := fun hj => by have := OW.id_lt h384 hj; omega
          have ap400 : idOf (.slice a92 x83.Files.length cap93) ≠ some n369 := fun hj => by have := OW.id_lt h385 hj; omega
          have ap401 : idOf (.slice a95 x83.Sessions.length cap96) ≠ some n369 := fun hj => by have := OW.id_lt h386 hj; omega
          have ap402 : idOf (.slice a291 x281.Files.length cap292) ≠ some n369 := fun hj => by have := OW.id_lt h387 hj; omega
          have ap403 : idOf (.slice a294 x281.Sessions.length cap295) ≠ some n369 := fun hj => by have := OW.id_lt h388 hj; omega
          have ho404 := (hk395 _ (by have := lt277; omega)).trans ho381
          have ho405 := (hk395 _ (by have := lt278; omega)).trans ho382
          have h406 := OW.keep (n' := (n369 + 1)) h383 (by omega) (fun i hi => hk395 i (OW.id_lt h383 hi).2)
          have h407 := OW.keep (n' := (n369 + 1)) h384 (by omega) (fun i hi => hk395 i (OW.id_lt h384 hi).2)
          have h408 := OW.keep (n' := (n369 + 1)) h385 (by omega) (fun i hi => hk395 i (OW.id_lt h385 hi).2)
          have h409 := OW.keep (n' := (n369 + 1)) h386 (by omega) (fun i hi => hk395 i (OW.id_lt h386 hi).2)
          have h410 := OW.keep (n' := (n369 + 1)) h387 (by omega) (fun i hi => hk395 i (OW.id_lt h387 hi).2)
          have h411 := OW.keep (n' := (n369 + 1)) h388 (by omega) (fun i hi => hk395 i (OW.id_lt h388 hi).2)
          have hlon3691 := hS393.lo
          have lt397 : n369 < (n369 + 1) := by omega
          refine WL.assign .nil rfl rfl rfl rfl ?_
          with_reducible refine WL.nil ?_
          with_reducible refine Ex.thn_norm ?_
          with_reducible refine W.seq ?_
          with_reducible refine W.region ?_
          refine WL.fieldAddr .nil rfl rfl rfl Try.underlying26 rfl info23 rfl rfl ?_
          refine WL.load1 .nil rfl rfl rfl Try.underlying23 rfl rfl ho394 rfl ?_
          refine WL.move .nil rfl rfl rfl rfl ?_
          obtain ⟨x412, hx412, hr⟩ := bnd_some hr
          have hb422 := fun b hb => (OW.id_lt (i := b) h406 hb).2
          have hb423 := fun b hb => (OW.id_lt (i := b) h407 hb).2
          have hb424 := fun b hb => (OW.id_lt (i := b) h408 hb).2
          have hb425 := fun b hb => (OW.id_lt (i := b) h409 hb).2
          have hb426 := fun b hb => (OW.id_lt (i := b) h410 hb).2
          have hb427 := fun b hb => (OW.id_lt (i := b) h411 hb).2
          refine GL.callIO g .nil (fun i => (F249 i).isSome = true ∨ idOf (.slice a92 x83.Files.length cap93) = some i) rfl rfl rfl rfl rfl rfl Try.func27 rfl rfl (Nat.le_refl _) hS393.lo (f_laws_markFileS_k  g (St.vis hS393 (fun i hi => .inl hi)) (OW.vis h408 (fun i hi => (.inr (hi)))) hx412) (fun v n413 H414 H415 hn416 hp417 hle418 hnew419 hk420 hd421 => ?_)
          obtain ⟨F430, hX431, hS429, h428, hl432, rfl⟩ := hp417
          have hS433 : St n0 n413 H414 _ := ⟨hS429.lo, fun i hi => (hnew419 i (by omega)).trans (hS429.hb i hi), hS429.fh.trans hle418⟩
          have ho434 := (hk420 _ (by have := lt277; omega) (fun hs => by
      rcases hs with h | h
      · rw [fo258] at h; cases h
      · exact ap268 h)).trans ho404
          have ho435 := (hk420 _ (by have := lt278; omega) (fun hs => by
      rcases hs with h | h
      · rw [fo262] at h; cases h
      · exact ap269 h)).trans ho405
          have ho436 := (hk420 _ (by have := lt397; omega) (fun hs => by
      rcases hs with h | h
      · rw [fo396] at h; cases h
      · exact ap400 h)).trans ho394
          have h437 := OW.keep (n' := n413) h406 (by omega) (fun i hi => hk420 i (OW.id_lt h406 hi).2 (fun hs => by
      rcases hs with h | h
      · rw [(OW.fnone h406 hi)] at h; cases h
      · exact ap270 _ h hi))
          have h438 := OW.keep (n' := n413) h407 (by omega) (fun i hi => hk420 i (OW.id_lt h407 hi).2 (fun hs => by
      rcases hs with h | h
      · rw [(OW.fnone h407 hi)] at h; cases h
      · exact ap271 _ h hi))
          have h439 := OW.keep (n' := n413) h409 (by omega) (fun i hi => hk420 i (OW.id_lt h409 hi).2 (fun hs => by
      rcases hs with h | h
      · rw [(OW.fnone h409 hi)] at h; cases h
      · exact (fun b h1 h2 => ap276 b h2 h1) _ h hi))
          have h440 := OW.keep (n' := n413) h410 (by omega) (fun i hi => hk420 i (OW.id_lt h410 hi).2 (fun hs => by
      rcases hs with h | h
      · rw [(OW.fnone h410 hi)] at h; cases h
      · exact (fun b h1 h2 => ap312 b h2 h1) _ h hi))
          have h441 := OW.keep (n' := n413) h411 (by omega) (fun i hi => hk420 i (OW.id_lt h411 hi).2 (fun hs => by
      rcases hs with h | h
      · rw [(OW.fnone h411 hi)] at h; cases h
      · exact (fun b h1 h2 => ap320 b h2 h1) _ h hi))
          have fo442 := (hX431.eq _ (by have := lt277; omega)).trans fo258
          have fo443 := (hX431.eq _ (by have := lt278; omega)).trans fo262
          have fo444 := (hX431.eq _ (by have := lt397; omega)).trans fo396
          have h445 := OW.keepF h437 hX431.sub (fun i hi => (hX431.eq i (by have := hb422 i hi; omega)).trans (OW.fnone h437 hi))
          have h446 := OW.keepF h438 hX431.sub (fun i hi => (hX431.eq i (by have := hb423 i hi; omega)).trans (OW.fnone h438 hi))
          have h447 := OW.keepF h439 hX431.sub (fun i hi => (hX431.eq i (by have := hb425 i hi; omega)).trans (OW.fnone h439 hi))
          have h448 := OW.keepF h440 hX431.sub (fun i hi => (hX431.eq i (by have := hb426 i hi; omega)).trans (OW.fnone h440 hi))
          have h449 := OW.keepF h441 hX431.sub (fun i hi => (hX431.eq i (by have := hb427 i hi; omega)).trans (OW.fnone h441 hi))
          have hE450 := (hE251.up (n' := (n369 + 1)) (by omega)).trans hX431
          have h451 := OW.le h428 hle418
          have hlon413 := hS433.lo
          have lt452 := hS433.lt ho434
          have lt453 := hS433.lt ho435
          have lt454 := hS433.lt ho436
          refine WL.assign .nil rfl rfl rfl rfl ?_
          with_reducible refine WL.nil ?_
          with_reducible refine Ex.thn_norm ?_
          with_reducible refine W.seq ?_
          with_reducible refine W.region ?_
          refine WL.fieldAddr .nil rfl rfl rfl Try.underlying26 rfl info24 rfl rfl ?_
          refine WL.load1 .nil rfl rfl rfl Try.underlying24 rfl rfl ho436 rfl ?_
          refine WL.move .nil rfl rfl rfl rfl ?_
          obtain ⟨x455, hx455, hr⟩ := bnd_some hr
          have hb465 := fun b hb => (OW.id_lt (i := b) h445 hb).2
          have hb466 := fun b hb => (OW.id_lt (i := b) h446 hb).2
          have hb467 := fun b hb => (OW.id_lt (i := b) h451 hb).2
          have hb468 := fun b hb => (OW.id_lt (i := b) h447 hb).2
          have hb469 := fun b hb => (OW.id_lt (i := b) h448 hb).2
          have hb470 := fun b hb => (OW.id_lt (i := b) h449 hb).2
          refine GL.callIO g .nil (fun i => (F430 i).isSome = true ∨ idOf (.slice a95 x83.Sessions.length cap96) = some i) rfl rfl rfl rfl rfl rfl Try.func28 rfl rfl (Nat.le_refl _) hS433.lo (f_laws_markSessionS_k  g (St.vis hS433 (fun i hi => .inl hi)) (OW.vis h447 (fun i hi => (.inr (hi)))) hx455) (fun v n456 H457 H458 hn459 hp460 hle461 hnew462 hk463 hd464 => ?_)
          obtain ⟨F473, hX474, hS472, h471, hl475, rfl⟩ := hp460
          have hS476 : St n0 n456 H457 _ := ⟨hS472.lo, fun i hi => (hnew462 i (by omega)).trans (hS472.hb i hi), hS472.fh.trans hle461⟩
          have ho477 := (hk463 _ (by have := lt452; omega) (fun hs => by
      rcases hs with h | h
      · rw [fo442] at h; cases h
      · exact ap272 h)).trans ho434
          have ho478 := (hk463 _ (by have := lt453; omega) (fun hs => by
      rcases hs with h | h
      · rw [fo443] at h; cases h
      · exact ap273 h)).trans ho435
          have ho479 := (hk463 _ (by have := lt454; omega) (fun hs => by
      rcases hs with h | h
      · rw [fo444] at h; cases h
      · exact ap401 h)).trans ho436
          have h480 := OW.keep (n' := n456) h445 (by omega) (fun i hi => hk463 i (OW.id_lt h445 hi).2 (fun hs => by
      rcases hs with h | h
      · rw [(OW.fnone h445 hi)] at h; cases h
      · exact ap274 _ h hi))
          have h481 := OW.keep (n' := n456) h446 (by omega) (fun i hi => hk463 i (OW.id_lt h446 hi).2 (fun hs => by
      rcases hs with h | h
      · rw [(OW.fnone h446 hi)] at h; cases h
      · exact ap275 _ h hi))
          have h482 := OW.keep (n' := n456) h451 (by omega) (fun i hi => hk463 i (OW.id_lt h451 hi).2 (fun hs => by
      rcases hs with h | h
      · rw [(OW.fnone h451 hi)] at h; cases h
      · exact ap276 _ h hi))
          have h483 := OW.keep (n' := n456) h448 (by omega) (fun i hi => hk463 i (OW.id_lt h448 hi).2 (fun hs => by
      rcases hs with h | h
      · rw [(OW.fnone h448 hi)] at h; cases h
      · exact (fun b h1 h2 => ap313 b h2 h1) _ h hi))
          have h484 := OW.keep (n' := n456) h449 (by omega) (fun i hi => hk463 i (OW.id_lt h449 hi).2 (fun hs => by
      rcases hs with h | h
      · rw [(OW.fnone h449 hi)] at h; cases h
      · exact (fun b h1 h2 => ap321 b h2 h1) _ h hi))
          have fo485 := (hX474.eq _ (by have := lt452; omega)).trans fo442
          have fo486 := (hX474.eq _ (by have := lt453; omega)).trans fo443
          have fo487 := (hX474.eq _ (by have := lt454; omega)).trans fo444
          have h488 := OW.keepF h480 hX474.sub (fun i hi => (hX474.eq i (by have := hb465 i hi; omega)).trans (OW.fnone h480 hi))
          have h489 := OW.keepF h481 hX474.sub (fun i hi => (hX474.eq i (by have := hb466 i hi; omega)).trans (OW.fnone h481 hi))
          have h490 := OW.keepF h482 hX474.sub (fun i hi => (hX474.eq i (by have := hb467 i hi; omega)).trans (OW.fnone h482 hi))
          have h491 := OW.keepF h483 hX474.sub (fun i hi => (hX474.eq i (by have := hb469 i hi; omega)).trans (OW.fnone h483 hi))
          have h492 := OW.keepF h484 hX474.sub (fun i hi => (hX474.eq i (by have := hb470 i hi; omega)).trans (OW.fnone h484 hi))
          have hE493 := (hE450.up (n' := n413) (by omega)).trans hX474
          have h494 := OW.le h471 hle461
          have hlon456 := hS476.lo
          have lt495 := hS476.lt ho477
          have lt496 := hS476.lt ho478
          have lt497 := hS476.lt ho479
          refine WL.assign .nil rfl rfl rfl rfl ?_
          with_reducible refine WL.nil ?_
          with_reducible refine Ex.thn_norm ?_
          with_reducible refine W.seq ?_
          with_reducible refine W.region ?_
          refine WL.move .nil rfl rfl rfl rfl ?_
          refine WL.assign .nil rfl rfl rfl rfl ?_
          with_reducible refine WL.nil ?_
          with_reducible refine Ex.thn_norm ?_
          with_reducible refine W.ret ?_
          refine ⟨.inr rfl, _, (.cons (.tmp rfl) .nil), ?_⟩
          refine WL.assign .nil rfl rfl rfl rfl ?_
          with_reducible refine WL.nil ?_
          with_reducible refine Ex.thn_norm ?_
          with_reducible refine W.seq ?_
          with_reducible refine W.seq ?_
          refine W.cut (fun fr n H => ∃ (x557 : Bool) (F : Heap), fr = [(1, .pointer (some ⟨n0, 0, none⟩)), (4, .slice a70 x62.1.length cap71), (5, .int .i64 x62.2), (7, .slice a178 x167.1.length cap179), (61, .bool x557)] ∧ St n0 n H F ∧ Ext n0 F0 n F ∧ H n0 = some (.row 1 [.slice a2 x1.Files.length cap3, .slice a5 x1.Sessions.length cap6]) ∧ F n0 = none ∧ OW n0 n H F (.slice a70 x62.1.length cap71) x62.1 ∧ OW n0 n H F (.slice a178 x167.1.length cap179) x167.1 ∧ SR F (.slice a2 x1.Files.length cap3) x1.Files ∧ SR F (.slice a5 x1.Sessions.length cap6) x1.Sessions ∧ idOf (.slice a70 x62.1.length cap71) ≠ some n0 ∧ idOf (.slice a178 x167.1.length cap179) ≠ some n0 ∧ (∀ b, idOf (.slice a178 x167.1.length cap179) = some b → idOf (.slice a70 x62.1.length cap71) ≠ some b) ∧ f_laws_FnExactStateBytes_J1 x167 x1 x62 x557 = some res) ?_ ?_
          · with_reducible refine W.region ?_
            refine WL.move .nil rfl rfl rfl rfl ?_
            refine WL.bin .nil rfl rfl rfl rfl rfl rfl ?_
            refine WL.move .nil rfl rfl rfl rfl ?_
            refine WL.guardD rfl rfl rfl (fun hg804 => ?_) (fun hg804 => ?_)
            · replace hr := ite_pos hr hg804
              refine WL.skip .nil rfl rfl ?_
              refine WL.skip .nil rfl rfl ?_
              refine WL.skip .nil rfl rfl ?_
              refine WL.skip .nil rfl rfl ?_
              refine WL.pick .nil rfl rfl rfl rfl rfl ?_
              refine WL.move .nil rfl rfl rfl rfl ?_
              refine WL.skip .nil rfl rfl ?_
              refine WL.skip .nil rfl rfl ?_
              refine WL.skip .nil rfl rfl ?_
              refine WL.pick .nil rfl rfl rfl rfl rfl ?_
              with_reducible refine WL.nil ?_
              with_reducible refine Ex.thn_norm ?_
              exact ⟨[(1, .pointer (some ⟨n0, 0, none⟩)), (4, .slice a70 x62.1.length cap71), (5, .int .i64 x62.2), (7, .slice a178 x167.1.length cap179), (61, .bool true)], (Fr.le_cons rfl (Fr.le_cons rfl (Fr.le_cons rfl (Fr.le_cons rfl (Fr.le_cons rfl Fr.le_nil))))), true, F473, rfl, hS476, hE493, ho477, fo485, h488, h489, ((h255.mono hX431.sub).mono hX474.sub), ((h256.mono hX431.sub).mono hX474.sub), ap263, ap265, ap267, hr⟩
            · replace hr := ite_neg hr hg804
              refine WL.move .nil rfl rfl rfl rfl ?_
              refine WL.move .nil rfl rfl rfl rfl ?_
              obtain ⟨F805, hS806, hle807, h808, hf809⟩ := OW.freeze h489 hS476
              have fo810 := (hf809 _ ap265).trans fo485
              have fo811 := (hf809 _ ap266).trans fo486
              have fo812 := (hf809 _ ap399).trans fo487
              have h813 := OW.keepF h488 hle807 (fun i hi => (hf809 i (fun hj => ap267 i hj hi)).trans (OW.fnone h488 hi))
              have h814 := OW.keepF h490 hle807 (fun i hi => (hf809 i (fun hj => (fun b h1 h2 => ap271 b h2 h1) i hj hi)).trans (OW.fnone h490 hi))
              have h815 := OW.keepF h494 hle807 (fun i hi => (hf809 i (fun hj => (fun b h1 h2 => ap275 b h2 h1) i hj hi)).trans (OW.fnone h494 hi))
              have h816 := OW.keepF h491 hle807 (fun i hi => (hf809 i (fun hj => (fun b h1 h2 => ap311 b h2 h1) i hj hi)).trans (OW.fnone h491 hi))
              have h817 := OW.keepF h492 hle807 (fun i hi => (hf809 i (fun hj => (fun b h1 h2 => ap319 b h2 h1) i hj hi)).trans (OW.fnone h492 hi))
              obtain ⟨F819, hS820, hle821, h822, hf823⟩ := OW.freeze h813 hS806
              have fo824 := (hf823 _ ap263).trans fo810
              have fo825 := (hf823 _ ap264).trans fo811
              have fo826 := (hf823 _ ap398).trans fo812
              have h827 := OW.keepF h814 hle821 (fun i hi => (hf823 i (fun hj => (fun b h1 h2 => ap270 b h2 h1) i hj hi)).trans (OW.fnone h814 hi))
              have h828 := OW.keepF h815 hle821 (fun i hi => (hf823 i (fun hj => (fun b h1 h2 => ap274 b h2 h1) i hj hi)).trans (OW.fnone h815 hi))
              have h829 := OW.keepF h816 hle821 (fun i hi => (hf823 i (fun hj => (fun b h1 h2 => ap310 b h2 h1) i hj hi)).trans (OW.fnone h816 hi))
              have h830 := OW.keepF h817 hle821 (fun i hi => (hf823 i (fun hj => (fun b h1 h2 => ap318 b h2 h1) i hj hi)).trans (OW.fnone h817 hi))
              obtain ⟨x832, hx832, hr⟩ := bnd_some hr
              have hb838 := fun b hb => (OW.id_lt (i := b) h488 hb).2
              have hb839 := fun b hb => (OW.id_lt (i := b) h489 hb).2
              have hb840 := fun b hb => (OW.id_lt (i := b) h490 hb).2
              have hb841 := fun b hb => (OW.id_lt (i := b) h494 hb).2
              have hb842 := fun b hb => (OW.id_lt (i := b) h491 hb).2
              have hb843 := fun b hb => (OW.id_lt (i := b) h492 hb).2
              refine GL.callP g.good .nil rfl rfl rfl rfl rfl rfl Try.func9 rfl rfl hS476.lo (f_laws_eqByteS_k  g hS820 (h808.mono hle821) h822 hx832) (fun v n833 H834 hn835 hk836 hp837 => ?_)
              obtain ⟨hS844, rfl⟩ := hp837
              have ho845 := (hk836 _ (by have := lt495; omega)).trans ho477
              have ho846 := (hk836 _ (by have := lt496; omega)).trans ho478
              have ho847 := (hk836 _ (by have := lt497; omega)).trans ho479
              have h848 := OW.keep (n' := n833) h488 (by omega) (fun i hi => hk836 i (OW.id_lt h488 hi).2)
              have h849 := OW.keep (n' := n833) h489 (by omega) (fun i hi => hk836 i (OW.id_lt h489 hi).2)
              have h850 := OW.keep (n' := n833) h490 (by omega) (fun i hi => hk836 i (OW.id_lt h490 hi).2)
              have h851 := OW.keep (n' := n833) h494 (by omega) (fun i hi => hk836 i (OW.id_lt h494 hi).2)
              have h852 := OW.keep (n' := n833) h491 (by omega) (fun i hi => hk836 i (OW.id_lt h491 hi).2)
              have h853 := OW.keep (n' := n833) h492 (by omega) (fun i hi => hk836 i (OW.id_lt h492 hi).2)
              have hS854 : St n0 n833 H834 F473 := ⟨by have := hS476.lo; omega, hS844.hb, fun i o hi => (hk836 i (hS476.lt (hS476.fh i o hi))).trans (hS476.fh i o hi)⟩
              have hlon833 := hS854.lo
              refine WL.not .nil rfl rfl rfl rfl ?_
              refine WL.pick .nil rfl rfl rfl rfl rfl ?_
              refine WL.move .nil rfl rfl rfl rfl ?_
              refine WL.guard rfl rfl rfl (fun hg855 => ?_) (fun hg855 => ?_)
              · replace hr := iteB_pos hr hg855
                refine WL.skip .nil rfl rfl ?_
                refine WL.skip .nil rfl rfl ?_
                refine WL.skip .nil rfl rfl ?_
                refine WL.pick .nil rfl rfl rfl rfl rfl ?_
                with_reducible refine WL.nil ?_
                with_reducible refine Ex.thn_norm ?_
                exact ⟨[(1, .pointer (some ⟨n0, 0, none⟩)), (4, .slice a70 x62.1.length cap71), (5, .int .i64 x62.2), (7, .slice a178 x167.1.length cap179), (61, .bool true)], (Fr.le_cons rfl (Fr.le_cons rfl (Fr.le_cons rfl (Fr.le_cons rfl (Fr.le_cons rfl Fr.le_nil))))), true, F473, rfl, hS854, (hE493.up (by omega)), ho845, fo485, h848, h849, ((h255.mono hX431.sub).mono hX474.sub), ((h256.mono hX431.sub).mono hX474.sub), ap263, ap265, ap267, hr⟩
              · replace hr := iteB_neg hr hg855
                refine WL.move .nil rfl rfl rfl rfl ?_
                refine WL.move .nil rfl rfl rfl rfl ?_
                refine WL.bin .nil rfl rfl rfl rfl rfl rfl ?_
                refine WL.pick .nil rfl rfl rfl rfl rfl ?_
                with_reducible refine WL.nil ?_
                with_reducible refine Ex.thn_norm ?_
                exact ⟨[(1, .pointer (some ⟨n0, 0, none⟩)), (4, .slice a70 x62.1.length cap71), (5, .int .i64 x62.2), (7, .slice a178 x167.1.length cap179), (61, .bool (!decide (x167.2 = x62.2)))], (Fr.le_cons rfl (Fr.le_cons rfl (Fr.le_cons rfl (Fr.le_cons rfl (Fr.le_cons rfl Fr.le_nil))))), (!decide (x167.2 = x62.2)), F473, rfl, hS854, (hE493.up (by omega)), ho845, fo485, h848, h849, ((h255.mono hX431.sub).mono hX474.sub), ((h256.mono hX431.sub).mono hX474.sub), ap263, ap265, ap267, hr⟩
          · intro _ n550 H551 hI
            obtain ⟨x557, F552, rfl, hS553, hE554, ho560, fo561, h555, h556, h558, h559, ap562, ap563, ap564, hr⟩ := hI
            have lt565 := hS553.lt ho560
            have hlen550 := hE554.le
            have hlon550 := hS553.lo
            unfold f_laws_FnExactStateBytes_J1 at hr
            refine W.cond rfl (fun hc567 => ?_) (fun hc567 => ?_)
            · replace hr := iteB_pos hr hc567
              with_reducible refine W.seq ?_
              with_reducible refine W.region ?_
              refine WL.assign .nil rfl rfl rfl rfl ?_
              with_reducible refine WL.nil ?_
              with_reducible refine Ex.thn_norm ?_
              with_reducible refine W.ret ?_
              with_reducible refine Ex.thn_ret ?_
              obtain rfl := Option.some.inj hr
              exact ⟨.inr rfl, _, (.cons (.tmp rfl) .nil), ⟨(Ext.st hE554 hS553), rfl⟩⟩
            · replace hr := iteB_neg hr hc567
              with_reducible refine W.skip ?_
              with_reducible refine Ex.thn_norm ?_
              with_reducible refine W.seq ?_
              with_reducible refine W.region ?_
              refine WL.assign .nil rfl rfl rfl rfl ?_
              with_reducible refine WL.nil ?_
              with_reducible refine Ex.thn_norm ?_
              with_reducible refine W.seq ?_
              with_reducible refine W.region ?_
              refine WL.move .nil rfl rfl rfl rfl ?_
              refine WL.move .nil rfl rfl rfl rfl ?_
              obtain ⟨x568, hx568, hr⟩ := bnd_some hr
              have hb578 := fun b hb => (OW.id_lt (i := b) h555 hb).2
              have hb579 := fun b hb => (OW.id_lt (i := b) h556 hb).2
              refine GL.callIO g .nil (fun i => (F552 i).isSome = true ∨ idOf (.slice a178 x167.1.length cap179) = some i) rfl rfl rfl rfl rfl rfl Try.func10 rfl rfl (Nat.le_refl _) hS553.lo (f_laws_markByteS_k  g (St.vis hS553 (fun i hi => .inl hi)) (OW.vis h556 (fun i hi => (.inr (hi)))) hx568) (fun v n569 H570 H571 hn572 hp573 hle574 hnew575 hk576 hd577 => ?_)
              obtain ⟨F582, hX583, hS581, h580, hl584, rfl⟩ := hp573
              have hS585 : St n0 n569 H570 _ := ⟨hS581.lo, fun i hi => (hnew575 i (by omega)).trans (hS581.hb i hi), hS581.fh.trans hle574⟩
              have ho586 := (hk576 _ (by have := lt565; omega) (fun hs => by
      rcases hs with h | h
      · rw [fo561] at h; cases h
      · exact ap563 h)).trans ho560
              have h587 := OW.keep (n' := n569) h555 (by omega) (fun i hi => hk576 i (OW.id_lt h555 hi).2 (fun hs => by
      rcases hs with h | h
      · rw [(OW.fnone h555 hi)] at h; cases h
      · exact ap564 _ h hi))
              have fo588 := (hX583.eq _ (by have := lt565; omega)).trans fo561
              have h589 := OW.keepF h587 hX583.sub (fun i hi => (hX583.eq i (by have := hb578 i hi; omega)).trans (OW.fnone h587 hi))
              have hE590 := (hE554.up (n' := n550) (by omega)).trans hX583
              have h591 := OW.le h580 hle574
              have hlon569 := hS585.lo
              have lt592 := hS585.lt ho586
              refine WL.assign .nil rfl rfl rfl rfl ?_
              with_reducible refine WL.nil ?_
              with_reducible refine Ex.thn_norm ?_
              with_reducible refine W.seq ?_
              with_reducible refine W.region ?_
              refine WL.assign .nil rfl rfl rfl rfl ?_
              with_reducible refine WL.nil ?_
              with_reducible refine Ex.thn_norm ?_
              with_reducible refine W.seq ?_
              with_reducible refine W.region ?_
              refine WL.move .nil rfl rfl rfl rfl ?_
              refine WL.move .nil rfl rfl rfl rfl ?_
              obtain ⟨F593, hS594, hle595, h596, hf597⟩ := OW.freeze h591 hS585
              have fo598 := (hf597 _ ap563).trans fo588
              have h599 := OW.keepF h589 hle595 (fun i hi => (hf597 i (fun hj => ap564 i hj hi)).trans (OW.fnone h589 hi))
              obtain ⟨x601, hx601, hr⟩ := bnd_some hr
              have hb607 := fun b hb => (OW.id_lt (i := b) h589 hb).2
              have hb608 := fun b hb => (OW.id_lt (i := b) h591 hb).2
              refine GL.callP g.good .nil rfl rfl rfl rfl rfl (by rw [← hl584]; rfl) Try.func17 rfl rfl hS585.lo (f_laws_heldByteS_k  g hS594 (SR.head hl584 h596) hx601) (fun v n602 H603 hn604 hk605 hp606 => ?_)
              obtain ⟨hS609, rfl⟩ := hp606
              have ho610 := (hk605 _ (by have := lt592; omega)).trans ho586
              have h611 := OW.keep (n' := n602) h589 (by omega) (fun i hi => hk605 i (OW.id_lt h589 hi).2)
              have h612 := OW.keep (n' := n602) h591 (by omega) (fun i hi => hk605 i (OW.id_lt h591 hi).2)
              have hS613 : St n0 n602 H603 F582 := ⟨by have := hS585.lo; omega, hS609.hb, fun i o hi => (hk605 i (hS585.lt (hS585.fh i o hi))).trans (hS585.fh i o hi)⟩
              have hlon602 := hS613.lo
              refine WL.assign .nil rfl rfl rfl rfl ?_
              with_reducible refine WL.nil ?_
              with_reducible refine Ex.thn_norm ?_
              with_reducible refine W.seq ?_
              with_reducible refine W.seq ?_
              with_reducible refine W.region ?_
              refine WL.move .nil rfl rfl rfl rfl ?_
              refine WL.bin .nil rfl rfl rfl rfl rfl rfl ?_
              with_reducible refine WL.nil ?_
              with_reducible refine Ex.thn_norm ?_
              refine W.condD rfl (fun hc615 => ?_) (fun hc615 => ?_)
              · replace hr := ite_pos hr hc615
                with_reducible refine W.seq ?_
                with_reducible refine W.region ?_
                refine WL.assign .nil rfl rfl rfl rfl ?_
                with_reducible refine WL.nil ?_
                with_reducible refine Ex.thn_norm ?_
                with_reducible refine W.ret ?_
                with_reducible refine Ex.thn_ret ?_
                obtain rfl := Option.some.inj hr
                exact ⟨.inr rfl, _, (.cons (.tmp rfl) .nil), ⟨(Ext.st hE590 hS613), rfl⟩⟩
              · replace hr := ite_neg hr hc615
                with_reducible refine W.skip ?_
                with_reducible refine Ex.thn_norm ?_
                with_reducible refine W.seq ?_
                with_reducible refine W.seq ?_
                with_reducible refine W.region ?_
                refine WL.move .nil rfl rfl rfl rfl ?_
                refine WL.move .nil rfl rfl rfl rfl ?_
                refine WL.bin .nil rfl rfl rfl rfl rfl rfl ?_
                with_reducible refine WL.nil ?_
                with_reducible refine Ex.thn_norm ?_
                refine W.condN rfl (fun hc617 => ?_) (fun hc617 => ?_)
                · replace hr := ite_neg hr hc617
                  with_reducible refine W.seq ?_
                  with_reducible refine W.region ?_
                  refine WL.assign .nil rfl rfl rfl rfl ?_
                  with_reducible refine WL.nil ?_
                  with_reducible refine Ex.thn_norm ?_
                  with_reducible refine W.ret ?_
                  with_reducible refine Ex.thn_ret ?_
                  obtain rfl := Option.some.inj hr
                  exact ⟨.inr rfl, _, (.cons (.tmp rfl) .nil), ⟨(Ext.st hE590 hS613), rfl⟩⟩
                · replace hr := ite_pos hr hc617
                  with_reducible refine W.skip ?_
                  with_reducible refine Ex.thn_norm ?_
                  with_reducible refine W.seq ?_
                  with_reducible refine W.region ?_
                  refine WL.loadN .nil (l' := [.slice a2 x1.Files.length cap3, .slice a5 x1.Sessions.length cap6]) rfl rfl rfl Try.underlying38 rfl info38 rfl ho610 rfl rfl ?_
                  obtain ⟨x618, hx618, hr⟩ := bnd_some hr
                  have hb624 := fun b hb => (OW.id_lt (i := b) h611 hb).2
                  have hb625 := fun b hb => (OW.id_lt (i := b) h612 hb).2
                  refine GL.callP g.good .nil rfl rfl rfl rfl rfl rfl Try.func15 rfl rfl hS613.lo (f_laws_toState_k  g hS613 (h558.mono hX583.sub) (h559.mono hX583.sub) hx618) (fun v n619 H620 hn621 hk622 hp623 => ?_)
                  obtain ⟨a626, cap627, a629, cap630, hS632, rfl, h628, h631, ap633⟩ := hp623
                  have ho634 := (hk622 _ (by have := lt592; omega)).trans ho610
                  have h635 := OW.keep (n' := n619) h611 (by omega) (fun i hi => hk622 i (OW.id_lt h611 hi).2)
                  have h636 := OW.keep (n' := n619) h612 (by omega) (fun i hi => hk622 i (OW.id_lt h612 hi).2)
                  have hS637 : St n0 n619 H620 F582 := ⟨by have := hS613.lo; omega, hS632.hb, hS632.fh⟩
                  have hlon619 := hS637.lo
                  have h638 := OW.lower (lo' := n0) h628 (by omega)
                  have ap640 : idOf (.slice a626 x618.Files.length cap627) ≠ some n0 := fun hj => by have := (OW.id_lt h628 hj).1; have := lt592; omega
                  have ap641 : ∀ b, idOf (.slice a626 x618.Files.length cap627) = some b → idOf (.slice a70 x62.1.length cap71) ≠ some b := fun b hj hi => by have := (OW.id_lt h628 hj).1; have := hb624 b hi; omega
                  have ap642 : ∀ b, idOf (.slice a626 x618.Files.length cap627) = some b → idOf (.slice a178 x167.1.length cap179) ≠ some b := fun b hj hi => by have := (OW.id_lt h628 hj).1; have := hb625 b hi; omega
                  have h643 := OW.lower (lo' := n0) h631 (by omega)
                  have ap645 : idOf (.slice a629 x618.Sessions.length cap630) ≠ some n0 := fun hj => by have := (OW.id_lt h631 hj).1; have := lt592; omega
                  have ap646 : ∀ b, idOf (.slice a629 x618.Sessions.length cap630) = some b → idOf (.slice a70 x62.1.length cap71) ≠ some b := fun b hj hi => by have := (OW.id_lt h631 hj).1; have := hb624 b hi; omega
                  have ap647 : ∀ b, idOf (.slice a629 x618.Sessions.length cap630) = some b → idOf (.slice a178 x167.1.length cap179) ≠ some b := fun b hj hi => by have := (OW.id_lt h631 hj).1; have := hb625 b hi; omega
                  obtain ⟨F648, hS649, hle650, h651, hf652⟩ := OW.freeze h638 hS637
                  have fo653 := (hf652 _ ap640).trans fo588
                  have h654 := OW.keepF h635 hle650 (fun i hi => (hf652 i (fun hj => ap641 i hj hi)).trans (OW.fnone h635 hi))
                  have h655 := OW.keepF h636 hle650 (fun i hi => (hf652 i (fun hj => ap642 i hj hi)).trans (OW.fnone h636 hi))
                  have h656 := OW.keepF h643 hle650 (fun i hi => (hf652 i (fun hj => (fun b h1 h2 => ap633 b h2 h1) i hj hi)).trans (OW.fnone h643 hi))
                  obtain ⟨F658, hS659, hle660, h661, hf662⟩ := OW.freeze h656 hS649
                  have fo663 := (hf662 _ ap645).trans fo653
                  have h664 := OW.keepF h654 hle660 (fun i hi => (hf662 i (fun hj => ap646 i hj hi)).trans (OW.fnone h654 hi))
                  have h665 := OW.keepF h655 hle660 (fun i hi => (hf662 i (fun hj => ap647 i hj hi)).trans (OW.fnone h655 hi))
                  obtain ⟨x667, hx667, hr⟩ := bnd_some hr
                  have hb673 := fun b hb => (OW.id_lt (i := b) h635 hb).2
                  have hb674 := fun b hb => (OW.id_lt (i := b) h636 hb).2
                  have hb675 := fun b hb => (OW.id_lt (i := b) h638 hb).2
                  have hb676 := fun b hb => (OW.id_lt (i := b) h643 hb).2
                  refine GL.callP g.good .nil rfl rfl rfl rfl rfl rfl Try.func16 rfl rfl hS637.lo (f_impl_StateBytes_k  g hS659 (h651.mono hle660) h661 hx667) (fun v n668 H669 hn670 hk671 hp672 => ?_)
                  obtain ⟨a677, cap678, hS680, rfl, h679⟩ := hp672
                  have ho681 := (hk671 _ (by have := lt592; omega)).trans ho634
                  have h682 := OW.keep (n' := n668) h635 (by omega) (fun i hi => hk671 i (OW.id_lt h635 hi).2)
                  have h683 := OW.keep (n' := n668) h636 (by omega) (fun i hi => hk671 i (OW.id_lt h636 hi).2)
                  have h684 := OW.keep (n' := n668) h638 (by omega) (fun i hi => hk671 i (OW.id_lt h638 hi).2)
                  have h685 := OW.keep (n' := n668) h643 (by omega) (fun i hi => hk671 i (OW.id_lt h643 hi).2)
                  have hS686 : St n0 n668 H669 F582 := ⟨by have := hS637.lo; omega, hS680.hb, fun i o hi => (hk671 i (hS637.lt (hS637.fh i o hi))).trans (hS637.fh i o hi)⟩
                  have hlon668 := hS686.lo
                  have h687 := OW.lower (lo' := n0) (OW.downFl (hle650.trans hle660) h679) (by omega)
                  have ap689 : idOf (.slice a677 x667.1.length cap678) ≠ some n0 := fun hj => by have := (OW.id_lt h679 hj).1; have := lt592; omega
                  have ap690 : ∀ b, idOf (.slice a677 x667.1.length cap678) = some b → idOf (.slice a70 x62.1.length cap71) ≠ some b := fun b hj hi => by have := (OW.id_lt h679 hj).1; have := hb673 b hi; omega
                  have ap691 : ∀ b, idOf (.slice a677 x667.1.length cap678) = some b → idOf (.slice a178 x167.1.length cap179) ≠ some b := fun b hj hi => by have := (OW.id_lt h679 hj).1; have := hb674 b hi; omega
                  have ap692 : ∀ b, idOf (.slice a677 x667.1.length cap678) = some b → idOf (.slice a626 x618.Files.length cap627) ≠ some b := fun b hj hi => by have := (OW.id_lt h679 hj).1; have := hb675 b hi; omega
                  have ap693 : ∀ b, idOf (.slice a677 x667.1.length cap678) = some b → idOf (.slice a629 x618.Sessions.length cap630) ≠ some b := fun b hj hi => by have := (OW.id_lt h679 hj).1; have := hb676 b hi; omega
                  refine WL.move .nil rfl rfl rfl rfl ?_
                  refine WL.extract .nil rfl rfl rfl rfl rfl ?_
                  refine WL.extract .nil rfl rfl rfl rfl rfl ?_
                  refine WL.assign .nil rfl rfl rfl rfl ?_
                  refine WL.assign .nil rfl rfl rfl rfl ?_
                  with_reducible refine WL.nil ?_
                  with_reducible refine Ex.thn_norm ?_
                  with_reducible refine W.seq ?_
                  with_reducible refine W.seq ?_
                  refine W.cut (fun fr n H => ∃ (x741 : Bool) (F : Heap), fr = [(7, .slice a178 x167.1.length cap179), (10, .int .i64 x568.2), (87, .bool x741)] ∧ St n0 n H F ∧ Ext n0 F0 n F ∧ OW n0 n H F (.slice a178 x167.1.length cap179) x568.1 ∧ f_laws_FnExactStateBytes_J2 x568 x741 = some res) ?_ ?_
                  · with_reducible refine W.region ?_
                    refine WL.move .nil rfl rfl rfl rfl ?_
                    refine WL.move .nil rfl rfl rfl rfl ?_
                    obtain ⟨F763, hS764, hle765, h766, hf767⟩ := OW.freeze h687 hS686
                    have fo768 := (hf767 _ ap689).trans fo588
                    have h769 := OW.keepF h682 hle765 (fun i hi => (hf767 i (fun hj => ap690 i hj hi)).trans (OW.fnone h682 hi))
                    have h770 := OW.keepF h683 hle765 (fun i hi => (hf767 i (fun hj => ap691 i hj hi)).trans (OW.fnone h683 hi))
                    have h771 := OW.keepF h684 hle765 (fun i hi => (hf767 i (fun hj => ap692 i hj hi)).trans (OW.fnone h684 hi))
                    have h772 := OW.keepF h685 hle765 (fun i hi => (hf767 i (fun hj => ap693 i hj hi)).trans (OW.fnone h685 hi))
                    obtain ⟨F774, hS775, hle776, h777, hf778⟩ := OW.freeze h769 hS764
                    have fo779 := (hf778 _ ap562).trans fo768
                    have h780 := OW.keepF h770 hle776 (fun i hi => (hf778 i (fun hj => (fun b h1 h2 => ap564 b h2 h1) i hj hi)).trans (OW.fnone h770 hi))
                    have h781 := OW.keepF h771 hle776 (fun i hi => (hf778 i (fun hj => (fun b h1 h2 => ap641 b h2 h1) i hj hi)).trans (OW.fnone h771 hi))
                    have h782 := OW.keepF h772 hle776 (fun i hi => (hf778 i (fun hj => (fun b h1 h2 => ap646 b h2 h1) i hj hi)).trans (OW.fnone h772 hi))
                    obtain ⟨x784, hx784, hr⟩ := bnd_some hr
                    have hb790 := fun b hb => (OW.id_lt (i := b) h682 hb).2
                    have hb791 := fun b hb => (OW.id_lt (i := b) h683 hb).2
                    have hb792 := fun b hb => (OW.id_lt (i := b) h684 hb).2
                    have hb793 := fun b hb => (OW.id_lt (i := b) h685 hb).2
                    have hb794 := fun b hb => (OW.id_lt (i := b) h687 hb).2
                    refine GL.callP g.good .nil rfl rfl rfl rfl rfl rfl Try.func9 rfl rfl hS686.lo (f_laws_eqByteS_k  g hS775 (h766.mono hle776) h777 hx784) (fun v n785 H786 hn787 hk788 hp789 => ?_)
                    obtain ⟨hS795, rfl⟩ := hp789
                    have ho796 := (hk788 _ (by have := lt592; omega)).trans ho681
                    have h797 := OW.keep (n' := n785) h682 (by omega) (fun i hi => hk788 i (OW.id_lt h682 hi).2)
                    have h798 := OW.keep (n' := n785) h683 (by omega) (fun i hi => hk788 i (OW.id_lt h683 hi).2)
                    have h799 := OW.keep (n' := n785) h684 (by omega) (fun i hi => hk788 i (OW.id_lt h684 hi).2)
                    have h800 := OW.keep (n' := n785) h685 (by omega) (fun i hi => hk788 i (OW.id_lt h685 hi).2)
                    have h801 := OW.keep (n' := n785) h687 (by omega) (fun i hi => hk788 i (OW.id_lt h687 hi).2)
                    have hS802 : St n0 n785 H786 F582 := ⟨by have := hS686.lo; omega, hS795.hb, fun i o hi => (hk788 i (hS686.lt (hS686.fh i o hi))).trans (hS686.fh i o hi)⟩
                    have hlon785 := hS802.lo
                    refine WL.not .nil rfl rfl rfl rfl ?_
                    refine WL.move .nil rfl rfl rfl rfl ?_
                    refine WL.guard rfl rfl rfl (fun hg803 => ?_) (fun hg803 => ?_)
                    · replace hr := iteB_pos hr hg803
                      refine WL.skip .nil rfl rfl ?_
                      refine WL.skip .nil rfl rfl ?_
                      refine WL.skip .nil rfl rfl ?_
                      refine WL.pick .nil rfl rfl rfl rfl rfl ?_
                      with_reducible refine WL.nil ?_
                      with_reducible refine Ex.thn_norm ?_
                      exact ⟨[(7, .slice a178 x167.1.length cap179), (10, .int .i64 x568.2), (87, .bool true)], (Fr.le_cons rfl (Fr.le_cons rfl (Fr.le_cons rfl Fr.le_nil))), true, F582, rfl, hS802, (hE590.up (by omega)), h798, hr⟩
                    · replace hr := iteB_neg hr hg803
                      refine WL.move .nil rfl rfl rfl rfl ?_
                      refine WL.move .nil rfl rfl rfl rfl ?_
                      refine WL.bin .nil rfl rfl rfl rfl rfl rfl ?_
                      refine WL.pick .nil rfl rfl rfl rfl rfl ?_
                      with_reducible refine WL.nil ?_
                      with_reducible refine Ex.thn_norm ?_
                      exact ⟨[(7, .slice a178 x167.1.length cap179), (10, .int .i64 x568.2), (87, .bool (!decide (x667.2 = x62.2)))], (Fr.le_cons rfl (Fr.le_cons rfl (Fr.le_cons rfl Fr.le_nil))), (!decide (x667.2 = x62.2)), F582, rfl, hS802, (hE590.up (by omega)), h798, hr⟩
                  · intro _ n735 H736 hI
                    obtain ⟨x741, F737, rfl, hS738, hE739, h740, hr⟩ := hI
                    have hlen735 := hE739.le
                    have hlon735 := hS738.lo
                    unfold f_laws_FnExactStateBytes_J2 at hr
                    refine W.cond rfl (fun hc743 => ?_) (fun hc743 => ?_)
                    · replace hr := iteB_pos hr hc743
                      with_reducible refine W.seq ?_
                      with_reducible refine W.region ?_
                      refine WL.assign .nil rfl rfl rfl rfl ?_
                      with_reducible refine WL.nil ?_
                      with_reducible refine Ex.thn_norm ?_
                      with_reducible refine W.ret ?_
                      with_reducible refine Ex.thn_ret ?_
                      obtain rfl := Option.some.inj hr
                      exact ⟨.inr rfl, _, (.cons (.tmp rfl) .nil), ⟨(Ext.st hE739 hS738), rfl⟩⟩
                    · replace hr := iteB_neg hr hc743
                      with_reducible refine W.skip ?_
                      with_reducible refine Ex.thn_norm ?_
                      with_reducible refine W.seq ?_
                      with_reducible refine W.region ?_
                      refine WL.assign .nil rfl rfl rfl rfl ?_
                      with_reducible refine WL.nil ?_
                      with_reducible refine Ex.thn_norm ?_
                      with_reducible refine W.seq ?_
                      with_reducible refine W.region ?_
                      refine WL.move .nil rfl rfl rfl rfl ?_
                      refine WL.move .nil rfl rfl rfl rfl ?_
                      obtain ⟨F744, hS745, hle746, h747, hf748⟩ := OW.freeze h740 hS738
                      obtain ⟨x750, hx750, hr⟩ := bnd_some hr
                      have hb756 := fun b hb => (OW.id_lt (i := b) h740 hb).2
                      refine GL.callP g.good .nil rfl rfl rfl rfl rfl (by rw [← hl584]; rfl) Try.func17 rfl rfl hS738.lo (f_laws_heldByteS_k  g hS745 (SR.head hl584 h747) hx750) (fun v n751 H752 hn753 hk754 hp755 => ?_)
                      obtain ⟨hS757, rfl⟩ := hp755
                      have h758 := OW.keep (n' := n751) h740 (by omega) (fun i hi => hk754 i (OW.id_lt h740 hi).2)
                      have hS759 : St n0 n751 H752 F737 := ⟨by have := hS738.lo; omega, hS757.hb, fun i o hi => (hk754 i (hS738.lt (hS738.fh i o hi))).trans (hS738.fh i o hi)⟩
                      have hlon751 := hS759.lo
                      refine WL.assign .nil rfl rfl rfl rfl ?_
                      with_reducible refine WL.nil ?_
                      with_reducible refine Ex.thn_norm ?_
                      with_reducible refine W.seq ?_
                      with_reducible refine W.seq ?_
                      with_reducible refine W.region ?_
                      refine WL.move .nil rfl rfl rfl rfl ?_
                      refine WL.bin .nil rfl rfl rfl rfl rfl rfl ?_
                      with_reducible refine WL.nil ?_
                      with_reducible refine Ex.thn_norm ?_
                      refine W.condD rfl (fun hc761 => ?_) (fun hc761 => ?_)
                      · replace hr := ite_pos hr hc761
                        with_reducible refine W.seq ?_
                        with_reducible refine W.region ?_
                        refine WL.assign .nil rfl rfl rfl rfl ?_
                        with_reducible refine WL.nil ?_
                        with_reducible refine Ex.thn_norm ?_
                        with_reducible refine W.ret ?_
                        with_reducible refine Ex.thn_ret ?_
                        obtain rfl := Option.some.inj hr
                        exact ⟨.inr rfl, _, (.cons (.tmp rfl) .nil), ⟨(Ext.st hE739 hS759), rfl⟩⟩
                      · replace hr := ite_neg hr hc761
                        with_reducible refine W.skip ?_
                        with_reducible refine Ex.thn_norm ?_
                        with_reducible refine W.seq ?_
                        with_reducible refine W.seq ?_
                        with_reducible refine W.region ?_
                        refine WL.move .nil rfl rfl rfl rfl ?_
                        refine WL.move .nil rfl rfl rfl rfl ?_
                        refine WL.bin .nil rfl rfl rfl rfl rfl rfl ?_
                        with_reducible refine WL.nil ?_
                        with_reducible refine Ex.thn_norm ?_
                        refine W.condN rfl (fun hc762 => ?_) (fun hc762 => ?_)
                        · replace hr := ite_neg hr hc762
                          with_reducible refine W.seq ?_
                          with_reducible refine W.region ?_
                          refine WL.assign .nil rfl rfl rfl rfl ?_
                          with_reducible refine WL.nil ?_
                          with_reducible refine Ex.thn_norm ?_
                          with_reducible refine W.ret ?_
                          with_reducible refine Ex.thn_ret ?_
                          obtain rfl := Option.some.inj hr
                          exact ⟨.inr rfl, _, (.cons (.tmp rfl) .nil), ⟨(Ext.st hE739 hS759), rfl⟩⟩
                        · replace hr := ite_pos hr hc762
                          with_reducible refine W.skip ?_
                          with_reducible refine Ex.thn_norm ?_
                          with_reducible refine W.seq ?_
                          with_reducible refine W.region ?_
                          refine WL.assign .nil rfl rfl rfl rfl ?_
                          with_reducible refine WL.nil ?_
                          with_reducible refine Ex.thn_norm ?_
                          with_reducible refine W.ret ?_
                          obtain rfl := Option.some.inj hr
                          exact ⟨.inr rfl, _, (.cons (.tmp rfl) .nil), ⟨(Ext.st hE739 hS759), rfl⟩⟩
end Go.Proofs.YtmodhnkjimpkbaaAb
