import Derived.Test.YtlpcdcpcfeaecaaG02
import Derived.KernelRfl
set_option linter.all false
set_option maxRecDepth 20000
namespace Go.Proofs.YtlpcdcpcfeaecaaAb
open Go Go.Proofs
theorem f_impl_unless_k {Δ : Prims} (g : Env Try.prog Δ) {lo n0 : Nat} {H0 F0 : Heap} (hS : St lo n0 H0 F0) {x1 : Bool} {x2 : Int} {res : (Int)} (hr : f_impl_unless x1 x2 = some res) :
    C Try.prog Δ n0 29 [.bool x1, .int .i64 x2] n0 H0 (fun v n H => St n0 n H F0 ∧ v = .int .i64 res) := by
 refine C.body Try.func29 rfl rfl ?_
 unfold f_impl_unless at hr
 have hS0 : St n0 n0 H0 F0 := hS.low (Nat.le_refl _)
 have hE0 := Ext.refl n0 F0
 have hlo0 := hS0.lo
 with_reducible refine W.seq ?_
 with_reducible refine W.region ?_
 refine WL.assign .nil rfl rfl rfl rfl ?_
 refine WL.nil ?_
 refine Ex.thn_norm ?_
 with_reducible refine W.seq ?_
 with_reducible refine W.seq ?_
 with_reducible refine W.region ?_
 refine WL.move .nil rfl rfl rfl rfl ?_
 refine WL.nil ?_
 refine Ex.thn_norm ?_
 refine W.cond rfl (fun hc3 => ?_) (fun hc3 => ?_)
 {
 replace hr := iteB_pos hr hc3
 with_reducible refine W.seq ?_
 with_reducible refine W.region ?_
 refine WL.assign .nil rfl rfl rfl rfl ?_
 refine WL.nil ?_
 refine Ex.thn_norm ?_
 with_reducible refine W.ret ?_
 with_reducible refine Ex.thn_ret ?_
 obtain rfl := Option.some.inj hr
 exact ⟨.inr rfl, _, (.cons (.tmp rfl) .nil), ⟨(Ext.st hE0 hS0), rfl⟩⟩
 }
 {
 replace hr := iteB_neg hr hc3
 with_reducible refine W.skip ?_
 refine Ex.thn_norm ?_
 with_reducible refine W.seq ?_
 with_reducible refine W.region ?_
 refine WL.move .nil rfl rfl rfl rfl ?_
 refine WL.assign .nil rfl rfl rfl rfl ?_
 refine WL.nil ?_
 refine Ex.thn_norm ?_
 with_reducible refine W.ret ?_
 obtain rfl := Option.some.inj hr
 exact ⟨.inr rfl, _, (.cons (.tmp rfl) .nil), ⟨(Ext.st hE0 hS0), rfl⟩⟩
 }
theorem f_impl_longList_k {Δ : Prims} (g : Env Try.prog Δ) {lo n0 : Nat} {H0 F0 : Heap} (hS : St lo n0 H0 F0) {x1 : Int} {res : (Int)} (hr : f_impl_longList x1 = some res) :
    C Try.prog Δ n0 28 [.int .i64 x1] n0 H0 (fun v n H => St n0 n H F0 ∧ v = .int .i64 res) := by
 refine C.body Try.func28 rfl rfl ?_
 unfold f_impl_longList at hr
 have hS0 : St n0 n0 H0 F0 := hS.low (Nat.le_refl _)
 have hE0 := Ext.refl n0 F0
 have hlo0 := hS0.lo
 with_reducible refine W.seq ?_
 with_reducible refine W.region ?_
 refine WL.assign .nil rfl rfl rfl rfl ?_
 refine WL.nil ?_
 refine Ex.thn_norm ?_
 with_reducible refine W.seq ?_
 with_reducible refine W.region ?_
 refine WL.move .nil rfl rfl rfl rfl ?_
 refine WL.bin .nil rfl rfl rfl rfl rfl rfl ?_
 obtain ⟨x2, hx2, hr⟩ := bnd_some hr
 refine GL.callP g.good .nil rfl rfl rfl rfl rfl rfl Try.func29 rfl rfl hS0.lo (f_impl_unless_k  g hS0 hx2) (fun v n3 H4 hn5 hk6 hp7 => ?_)
 obtain ⟨hS8, rfl⟩ := hp7
 have hS9 : St n0 n3 H4 F0 := ⟨by have := hS0.lo; omega, hS8.hb, hS8.fh⟩
 have hlon3 := hS9.lo
 refine WL.assign .nil rfl rfl rfl rfl ?_
 refine WL.nil ?_
 refine Ex.thn_norm ?_
 with_reducible refine W.ret ?_
 obtain rfl := Option.some.inj hr
 exact ⟨.inr rfl, _, (.cons (.tmp rfl) .nil), ⟨(Ext.st hE0 hS9), rfl⟩⟩
theorem f_impl_within_k {Δ : Prims} (g : Env Try.prog Δ) {lo n0 : Nat} {H0 F0 : Heap} (hS : St lo n0 H0 F0) {x1 : Int} {x2 : Int} {x3 : Int} {res : (Bool)} (hr : f_impl_within x1 x2 x3 = some res) :
    C Try.prog Δ n0 30 [.int .i64 x1, .int .i64 x2, .int .i64 x3] n0 H0 (fun v n H => St n0 n H F0 ∧ v = .bool res) := by
 refine C.body Try.func30 rfl rfl ?_
 unfold f_impl_within at hr
 have hS0 : St n0 n0 H0 F0 := hS.low (Nat.le_refl _)
 have hE0 := Ext.refl n0 F0
 have hlo0 := hS0.lo
 with_reducible refine W.seq ?_
 with_reducible refine W.region ?_
 refine WL.assign .nil rfl rfl rfl rfl ?_
 refine WL.nil ?_
 refine Ex.thn_norm ?_
 with_reducible refine W.seq ?_
 with_reducible refine W.region ?_
 refine WL.move .nil rfl rfl rfl rfl ?_
 refine WL.move .nil rfl rfl rfl rfl ?_
 refine WL.bin .nil rfl rfl rfl rfl rfl rfl ?_
 refine WL.move .nil rfl rfl rfl rfl ?_
 refine WL.guardD rfl rfl rfl (fun hg4 => ?_) (fun hg4 => ?_)
 {
 replace hr := ite_pos hr hg4
 refine WL.move .nil rfl rfl rfl rfl ?_
 refine WL.move .nil rfl rfl rfl rfl ?_
 refine WL.bin .nil rfl rfl rfl rfl rfl rfl ?_
 refine WL.pick .nil rfl rfl rfl rfl rfl ?_
 refine WL.assign .nil rfl rfl rfl rfl ?_
 refine WL.nil ?_
 refine Ex.thn_norm ?_
 with_reducible refine W.ret ?_
 obtain rfl := Option.some.inj hr
 exact ⟨.inr rfl, _, (.cons (.tmp rfl) .nil), ⟨(Ext.st hE0 hS0), rfl⟩⟩
 }
 {
 replace hr := ite_neg hr hg4
 refine WL.skip .nil rfl rfl ?_
 refine WL.skip .nil rfl rfl ?_
 refine WL.skip .nil rfl rfl ?_
 refine WL.pick .nil rfl rfl rfl rfl rfl ?_
 refine WL.assign .nil rfl rfl rfl rfl ?_
 refine WL.nil ?_
 refine Ex.thn_norm ?_
 with_reducible refine W.ret ?_
 obtain rfl := Option.some.inj hr
 exact ⟨.inr rfl, _, (.cons (.tmp rfl) .nil), ⟨(Ext.st hE0 hS0), rfl⟩⟩
 }
theorem f_impl_first_k {Δ : Prims} (g : Env Try.prog Δ) {lo n0 : Nat} {H0 F0 : Heap} (hS : St lo n0 H0 F0) {a2 : Option Addr} {cap3 : Nat} {xs1 : (List Int)} (h4 : SR F0 (.slice a2 xs1.length cap3) xs1) {res : (Int)} (hr : f_impl_first xs1 = some res) :
    C Try.prog Δ n0 27 [.slice a2 xs1.length cap3] n0 H0 (fun v n H => St n0 n H F0 ∧ v = .int .i64 res) := by
 refine C.body Try.func27 rfl rfl ?_
 unfold f_impl_first at hr
 have hS0 : St n0 n0 H0 F0 := hS.low (Nat.le_refl _)
 have hE0 := Ext.refl n0 F0
 have hlo0 := hS0.lo
 with_reducible refine W.seq ?_
 with_reducible refine W.region ?_
 refine WL.assign .nil rfl rfl rfl rfl ?_
 refine WL.nil ?_
 refine Ex.thn_norm ?_
 with_reducible refine W.seq ?_
 with_reducible refine W.seq ?_
 with_reducible refine W.region ?_
 refine WL.move .nil rfl rfl rfl rfl ?_
 refine WL.len .nil rfl rfl rfl Try.underlying31 rfl ?_
 refine WL.move .nil rfl rfl rfl rfl ?_
 refine WL.nil ?_
 refine Ex.thn_norm ?_
 with_reducible refine W.block ?_
 refine W.loopF (fun k0 fr n H => ∃ (x66 : Int) (F : Heap), fr = [(5, .slice a2 xs1.length cap3), (6, .int .i64 (xs1.length : Int)), (7, .int .i64 x66)] ∧ St n0 n H F ∧ Ext n0 F0 n F ∧ SR F (.slice a2 xs1.length cap3) xs1 ∧ f_impl_first_L0 xs1 k0 x66 = some res) BIG (fr0 := [(5, .slice a2 xs1.length cap3), (6, .int .i64 (xs1.length : Int)), (7, .int .i64 0)]) (Fr.le_cons rfl (Fr.le_cons rfl (Fr.le_cons rfl Fr.le_nil))) ?_ ?_ ?_
 {
 exact ⟨0, F0, rfl, hS0, hE0, h4, hr⟩
 }
 {
 intro fr n H hI
 obtain ⟨x66, F62, hfr, hS63, hE64, h65, hr⟩ := hI
 rw [f_impl_first_L0] at hr
 cases hr
 }
 {
 intro k0 _ n60 H61 hI
 obtain ⟨x66, F62, rfl, hS63, hE64, h65, hr⟩ := hI
 have hlen60 := hE64.le
 have hlon60 := hS63.lo
 rw [f_impl_first_L0] at hr
 with_reducible refine W.seq ?_
 with_reducible refine W.region ?_
 refine WL.bin .nil rfl rfl rfl rfl rfl rfl ?_
 refine WL.nil ?_
 refine Ex.thn_norm ?_
 with_reducible refine W.seq ?_
 refine W.condD rfl (fun hc68 => ?_) (fun hc68 => ?_)
 {
 replace hr := ite_pos hr hc68
 with_reducible refine W.skip ?_
 refine Ex.thn_norm ?_
 with_reducible refine W.seq ?_
 with_reducible refine W.block ?_
 with_reducible refine W.seq ?_
 with_reducible refine W.region ?_
 obtain ⟨x78, hx78, hr⟩ := bnd_some hr
 refine GL.index .nil rfl rfl rfl Try.underlying31 info3 rfl rfl h65 hS63.fh rfl hx78 (fun b79 kp80 c81 ecs82 hrow83 hwin84 hR85 => ?_)
 have hcs : _ = ([.int .i64 x78] : List Value) := hR85
 subst hcs
 refine WL.load1 .nil rfl rfl rfl Try.underlying3 rfl rfl hrow83 ((win_get0 hwin84 (show (0 : Nat) < 1 by decide)).trans rfl) ?_
 refine WL.assign .nil rfl rfl rfl rfl ?_
 refine WL.nil ?_
 refine Ex.thn_norm ?_
 with_reducible refine W.seq ?_
 with_reducible refine W.region ?_
 refine WL.move .nil rfl rfl rfl rfl ?_
 refine WL.bin .nil rfl rfl rfl rfl rfl rfl ?_
 refine WL.nil ?_
 refine Ex.thn_norm ?_
 refine W.condN rfl (fun hc86 => ?_) (fun hc86 => ?_)
 {
 replace hr := ite_neg hr hc86
 with_reducible refine W.seq ?_
 with_reducible refine W.region ?_
 refine WL.move .nil rfl rfl rfl rfl ?_
 refine WL.assign .nil rfl rfl rfl rfl ?_
 refine WL.nil ?_
 refine Ex.thn_norm ?_
 with_reducible refine W.ret ?_
 with_reducible refine Ex.blk_ret ?_
 with_reducible refine Ex.thn_ret ?_
 with_reducible refine Ex.thn_ret ?_
 with_reducible refine Ex.blk_ret ?_
 with_reducible refine Ex.thn_ret ?_
 obtain rfl := Option.some.inj hr
 exact ⟨.inr rfl, _, (.cons (.tmp rfl) .nil), ⟨(Ext.st hE64 hS63), rfl⟩⟩
 }
 {
 replace hr := ite_pos hr hc86
 with_reducible refine W.skip ?_
 with_reducible refine Ex.blk_norm ?_
 refine Ex.thn_norm ?_
 with_reducible refine W.region ?_
 obtain ⟨hc87, hr⟩ := chk_some hr
 refine WL.addI .nil rfl rfl rfl rfl rfl hc87.1 hc87.2 ?_
 refine WL.move .nil rfl rfl rfl rfl ?_
 refine WL.nil ?_
 refine Ex.thn_norm ?_
 exact ⟨[(5, .slice a2 xs1.length cap3), (6, .int .i64 (xs1.length : Int)), (7, .int .i64 (x66 + 1))], (Fr.le_cons rfl (Fr.le_cons rfl (Fr.le_cons rfl Fr.le_nil))), (x66 + 1), F62, rfl, hS63, hE64, h65, hr⟩
 }
 }
 {
 replace hr := ite_neg hr hc68
 with_reducible refine W.exit ?_
 with_reducible refine Ex.thn_ex ?_
 with_reducible refine Ex.thn_ex ?_
 with_reducible refine Ex.blk_here ?_
 refine Ex.thn_norm ?_
 with_reducible refine W.seq ?_
 with_reducible refine W.region ?_
 refine WL.assign .nil rfl rfl rfl rfl ?_
 refine WL.nil ?_
 refine Ex.thn_norm ?_
 with_reducible refine W.ret ?_
 obtain rfl := Option.some.inj hr
 exact ⟨.inr rfl, _, (.cons (.tmp rfl) .nil), ⟨(Ext.st hE64 hS63), rfl⟩⟩
 }
 }
theorem f_impl_newCluster_k {Δ : Prims} (g : Env Try.prog Δ) {lo n0 : Nat} {H0 F0 : Heap} (hS : St lo n0 H0 F0) {x1 : Int} {res : (GCluster)} (hr : f_impl_newCluster x1 = some res) :
    C Try.prog Δ n0 31 [.int .i64 x1] n0 H0 (fun v n H => ∃ (F : Heap) (ra5 : Option Addr) (rcap6 : Nat) (rS8 : Nat → Prop) (ra9 : Option Addr) (rcap10 : Nat) (ra12 : Option Addr) (rcap13 : Nat) (rp1 : Nat), Ext n0 F0 n F ∧ St n0 n H F ∧ v = .pointer (some ⟨rp1, 0, none⟩) ∧ n0 ≤ rp1 ∧ H rp1 = some (.row 1 [.slice ra5 res.Peers.length rcap6, .slice ra9 res.Net.length rcap10, .slice ra12 res.Chosen.length rcap13, .bool res.Conflict]) ∧ F rp1 = none ∧ OD n0 n H F rS8 [] (.slice ra5 res.Peers.length rcap6) res.Peers ∧ OW n0 n H F (.slice ra9 res.Net.length rcap10) res.Net ∧ OW n0 n H F (.slice ra12 res.Chosen.length rcap13) res.Chosen ∧ ¬ rS8 rp1 ∧ idOf (.slice ra9 res.Net.length rcap10) ≠ some rp1 ∧ idOf (.slice ra12 res.Chosen.length rcap13) ≠ some rp1 ∧ (∀ b, idOf (.slice ra9 res.Net.length rcap10) = some b → ¬ rS8 b) ∧ (∀ b, idOf (.slice ra12 res.Chosen.length rcap13) = some b → ¬ rS8 b) ∧ (∀ b, idOf (.slice ra12 res.Chosen.length rcap13) = some b → idOf (.slice ra9 res.Net.length rcap10) ≠ some b)) := by
 refine C.body Try.func31 rfl rfl ?_
 unfold f_impl_newCluster at hr
 have hS0 : St n0 n0 H0 F0 := hS.low (Nat.le_refl _)
 have hE0 := Ext.refl n0 F0
 have hlo0 := hS0.lo
 with_reducible refine W.seq ?_
 with_reducible refine W.region ?_
 refine WL.assign .nil rfl rfl rfl rfl ?_
 refine WL.nil ?_
 refine Ex.thn_norm ?_
 with_reducible refine W.seq ?_
 with_reducible refine W.region ?_
 refine WL.buildL .nil (cells := [.slice none 0 0, .slice none 0 0, .slice none 0 0, .bool false]) rfl rfl rfl Try.underlying30 info30 rfl rfl rfl (by simp only [List.mapM_cons, List.mapM_nil, info26, info27, info28, info4]; rfl) rfl (by first | rfl | ((conv => lhs; simp [splice, fillL, cells_int, cells_bool, cells_string, cells_str, cells_slice, cells_ptr, cells_map, cells_func, cells_nilFunc, cells_nilIface, cells_iface, cells_agg, cells_u8]) <;> rfl)) ?_
 refine GL.box hS0 .nil (vc := [.slice none 0 0, .slice none 0 0, .slice none 0 0, .bool false]) rfl rfl rfl rfl rfl (by repeat' (first | exact List.forall_mem_nil _ | refine List.forall_mem_cons.2 ⟨?_, ?_⟩ | rfl)) (fun H2 hS3 ho4 hk5 => ?_)
 have fo6 := hS0.fnone (Nat.le_refl _)
 have hlon01 := hS3.lo
 have lt7 : n0 < (n0 + 1) := by omega
 refine WL.assign .nil rfl rfl rfl rfl ?_
 refine WL.nil ?_
 refine Ex.thn_norm ?_
 with_reducible refine W.seq ?_
 with_reducible refine W.seq ?_
 with_reducible refine W.region ?_
 refine WL.move .nil rfl rfl rfl rfl ?_
 refine WL.move .nil rfl rfl rfl rfl ?_
 refine WL.nil ?_
 refine Ex.thn_norm ?_
 with_reducible refine W.block ?_
 refine W.loopF (fun k0 fr n H => ∃ (x171 : Int) (a172 : Option Addr) (cap173 : Nat) (xs174 : (List GPeer)) (S177 : Nat → Prop) (F : Heap), fr = [(3, .pointer (some ⟨n0, 0, none⟩)), (6, .int .i64 x1), (7, .int .i64 x171)] ∧ St n0 n H F ∧ Ext n0 F0 n F ∧ H n0 = some (.row 1 [.slice a172 xs174.length cap173, .slice none 0 0, .slice none 0 0, .bool false]) ∧ F n0 = none ∧ OD n0 n H F S177 [] (.slice a172 xs174.length cap173) xs174 ∧ ¬ S177 n0 ∧ f_impl_newCluster_L0 x1 k0 x171 xs174 = some res) BIG (fr0 := [(3, .pointer (some ⟨n0, 0, none⟩)), (6, .int .i64 x1), (7, .int .i64 0)]) (Fr.le_cons rfl (Fr.le_cons rfl (Fr.le_cons rfl Fr.le_nil))) ?_ ?_ ?_
 {
 exact ⟨0, none, 0, [], (fun _ => False), F0, rfl, hS3, (hE0.up (by omega)), ho4, fo6, OD.nil, (fun h => by cases h), hr⟩
 }
 {
 intro fr n H hI
 obtain ⟨x171, a172, cap173, xs174, S177, F168, hfr, hS169, hE170, ho178, fo179, h175, ap180, hr⟩ := hI
 rw [f_impl_newCluster_L0] at hr
 cases hr
 }
 {
 intro k0 _ n166 H167 hI
 obtain ⟨x171, a172, cap173, xs174, S177, F168, rfl, hS169, hE170, ho178, fo179, h175, ap180, hr⟩ := hI
 have lt181 := hS169.lt ho178
 have hlen166 := hE170.le
 have hlon166 := hS169.lo
 rw [f_impl_newCluster_L0] at hr
 with_reducible refine W.seq ?_
 with_reducible refine W.region ?_
 refine WL.bin .nil rfl rfl rfl rfl rfl rfl ?_
 refine WL.nil ?_
 refine Ex.thn_norm ?_
 with_reducible refine W.seq ?_
 refine W.condD rfl (fun hc183 => ?_) (fun hc183 => ?_)
 {
 replace hr := ite_pos hr hc183
 with_reducible refine W.skip ?_
 refine Ex.thn_norm ?_
 with_reducible refine W.seq ?_
 with_reducible refine W.block ?_
 with_reducible refine W.region ?_
 refine WL.move .nil rfl rfl rfl rfl ?_
 refine WL.move .nil rfl rfl rfl rfl ?_
 refine WL.nilCheck .nil rfl rfl rfl rfl ?_
 refine WL.fieldAddr .nil rfl rfl rfl Try.underlying30 rfl info26 rfl rfl ?_
 refine WL.load1 .nil rfl rfl rfl Try.underlying26 rfl rfl ho178 rfl ?_
 refine WL.buildL .nil (cells := [.bool true, .int .i64 0, .int .i64 0, .int .i64 0, .int .i64 0, .slice none 0 0, .slice none 0 0, .slice none 0 0, .slice none 0 0]) rfl rfl rfl Try.underlying42 info42 rfl rfl rfl (by simp only [List.mapM_cons, List.mapM_nil, info4, info3, info3, info3, info3, info28, info40, info31, info31]; rfl) rfl (by first | rfl | ((conv => lhs; simp [splice, fillL, cells_int, cells_bool, cells_string, cells_str, cells_slice, cells_ptr, cells_map, cells_func, cells_nilFunc, cells_nilIface, cells_iface, cells_agg, cells_u8]) <;> rfl)) ?_
 refine GL.litX (cs := [.bool true, .int .i64 0, .int .i64 0, .int .i64 0, .int .i64 0, .slice none 0 0, .slice none 0 0, .slice none 0 0, .slice none 0 0]) (xs := ([({ Up := true, Term := 0, Vote := 0, Commit := 0, Role := 0, Log := [], Votes := [], Next := [], Match := [] } : GPeer)] : List GPeer)) hS169 .nil rfl rfl rfl Try.underlying26 info42 rfl rfl rfl (by decide) (by decide) rfl rfl rfl rfl rfl (RA.cons (cs := [.bool true, .int .i64 0, .int .i64 0, .int .i64 0, .int .i64 0, .slice none 0 0, .slice none 0 0, .slice none 0 0, .slice none 0 0]) (a := (({ Up := true, Term := 0, Vote := 0, Commit := 0, Role := 0, Log := [], Votes := [], Next := [], Match := [] } : GPeer) : GPeer)) (GPeer.toR (x := ({ Up := true, Term := 0, Vote := 0, Commit := 0, Role := 0, Log := [], Votes := [], Next := [], Match := [] } : GPeer)) SR.nil SR.nil SR.nil SR.nil) RA.nil) rfl (fun H217 hS218 hO219 hk220 hsl221 => ?_)
 have ho222 := (hk220 _ (by have := lt181; omega)).trans ho178
 have h223 := OD.keep (n' := (n166 + 1)) h175 (by omega) (fun i hi => hk220 i (OD.id_lt h175 hi).2)
 have h224 := OW.lower (lo' := n0) hO219 (by omega)
 have hlon1661 := hS218.lo
 obtain ⟨hc228, hr⟩ := chk_some hr
 refine GL.appendD (w := ({ Up := true, Term := 0, Vote := 0, Commit := 0, Role := 0, Log := [], Votes := [], Next := [], Match := [] } : GPeer)) hS218 .nil rfl rfl rfl Try.underlying26 Try.underlying26 rfl info42 rfl rfl rfl (by decide) rfl rfl h223 (by omega) (by omega) hsl221 ⟨none, 0, none, 0, none, 0, none, 0, rfl⟩ (GPeer.nilP) hc228 (fun a229 cap230 n231 H232 S233 hS234 hn235 hO236 hk237 hid238 => ?_)
 have ho239 := (hk237 _ (by have := lt181; omega) ap180).trans ho222
 have h240 := OW.keep h224 hn235 (fun i hi => hk237 i (OW.id_lt h224 hi).2 (fun hj => (Ap.sym (Ap.fresh (OW.lb hO219) (OD.hb h175))) _ hj hi))
 have hlon231 := hS234.lo
 refine WL.nilCheck .nil rfl rfl rfl rfl ?_
 refine WL.fieldAddr .nil rfl rfl rfl Try.underlying30 rfl info26 rfl rfl ?_
 refine GL.store hS234 .nil (vc := [.slice a229 (xs174 ++ [({ Up := true, Term := 0, Vote := 0, Commit := 0, Role := 0, Log := [], Votes := [], Next := [], Match := [] } : GPeer)]).length cap230]) (c' := [.slice a229 (xs174 ++ [({ Up := true, Term := 0, Vote := 0, Commit := 0, Role := 0, Log := [], Votes := [], Next := [], Match := [] } : GPeer)]).length cap230, .slice none 0 0, .slice none 0 0, .bool false]) rfl rfl rfl info26 rfl rfl rfl rfl ho239 fo179 (Nat.le_of_ble_eq_true rfl) (by omega) (one1 rfl) rfl (fun H244 hS245 ho246 hk247 => ?_)
 have h248 := OW.keep h240 (Nat.le_refl _) (fun i hi => hk247 i (fun hj => (Ap.fresh0 (OW.lb hO219) (by have := lt181; omega)) (hj ▸ hi)))
 have h249 := OD.keep hO236 (Nat.le_refl _) (fun i hi => hk247 i (fun hj => (Ap.new0 hid238 (by have := lt181; omega) ap180) (hj ▸ hi)))
 refine WL.nil ?_
 with_reducible refine Ex.blk_norm ?_
 refine Ex.thn_norm ?_
 with_reducible refine W.region ?_
 obtain ⟨hc250, hr⟩ := chk_some hr
 refine WL.addI .nil rfl rfl rfl rfl rfl hc250.1 hc250.2 ?_
 refine WL.move .nil rfl rfl rfl rfl ?_
 refine WL.nil ?_
 refine Ex.thn_norm ?_
 exact ⟨[(3, .pointer (some ⟨n0, 0, none⟩)), (6, .int .i64 x1), (7, .int .i64 (x171 + 1))], (Fr.le_cons rfl (Fr.le_cons rfl (Fr.le_cons rfl Fr.le_nil))), (x171 + 1), a229, cap230, (xs174 ++ [({ Up := true, Term := 0, Vote := 0, Commit := 0, Role := 0, Log := [], Votes := [], Next := [], Match := [] } : GPeer)]), S233, F168, rfl, hS245, (hE170.up (by omega)), ho246, fo179, h249, (Ap.new0 hid238 (by have := lt181; omega) ap180), hr⟩
 }
 {
 replace hr := ite_neg hr hc183
 with_reducible refine W.exit ?_
 with_reducible refine Ex.thn_ex ?_
 with_reducible refine Ex.thn_ex ?_
 with_reducible refine Ex.blk_here ?_
 refine Ex.thn_norm ?_
 with_reducible refine W.seq ?_
 with_reducible refine W.region ?_
 refine WL.move .nil rfl rfl rfl rfl ?_
 refine WL.assign .nil rfl rfl rfl rfl ?_
 refine WL.nil ?_
 refine Ex.thn_norm ?_
 with_reducible refine W.ret ?_
 obtain rfl := Option.some.inj hr
 exact ⟨.inr rfl, _, (.cons (.tmp rfl) .nil), ⟨F168, a172, cap173, S177, none, 0, none, 0, n0, (hE170.up (by omega)), hS169, rfl, (by omega), ho178, fo179, h175, OW.nil, OW.nil, ap180, (fun h => by cases h), (fun h => by cases h), (fun b h => by cases h), (fun b h => by cases h), (fun b h => by cases h)⟩⟩
 }
 }
theorem f_slices_Clone_byte_k {Δ : Prims} (g : Env Try.prog Δ) {lo n0 : Nat} {H0 F0 : Heap} (hS : St lo n0 H0 F0) {a2 : Option Addr} {cap3 : Nat} {xs1 : List UInt8} (h4 : SrcX H0 F0 (.slice a2 xs1.length cap3) xs1) {res : List UInt8} (hr : f_slices_Clone_byte xs1 = some res) :
    C Try.prog Δ n0 59 [.slice a2 xs1.length cap3] n0 H0 (fun v n H => ∃ (ra1 : Option Addr) (rcap2 : Nat), St n0 n H F0 ∧ v = .slice ra1 res.length rcap2 ∧ OW n0 n H F0 (.slice ra1 res.length rcap2) res) := by
  refine C.body Try.func59 rfl rfl ?_
  obtain ⟨hlen, hr⟩ := chk_some hr
  obtain rfl := Option.some.inj hr
  have hS0 : St n0 n0 H0 F0 := hS.low (Nat.le_refl _)
  with_reducible refine W.seq ?_
  with_reducible refine W.region ?_
  refine WL.assign .nil rfl rfl rfl rfl ?_
  refine WL.nil ?_
  refine Ex.thn_norm ?_
  with_reducible refine W.seq ?_
  with_reducible refine W.seq ?_
  with_reducible refine W.region ?_
  refine WL.move .nil rfl rfl rfl rfl ?_
  refine WL.eqNil .nil rfl rfl rfl (by decide) Try.underlying22 rfl rfl ?_
  refine WL.nil ?_
  refine Ex.thn_norm ?_
  refine W.cond rfl (fun hc => ?_) (fun hc => ?_)
  · have hnil := SrcX.isNone h4 hc
    subst hnil
    with_reducible refine W.seq ?_
    with_reducible refine W.region ?_
    refine WL.assign .nil rfl rfl rfl rfl ?_
    refine WL.nil ?_
    refine Ex.thn_norm ?_
    with_reducible refine W.ret ?_
    repeat (with_reducible refine Ex.thn_ret ?_)
    exact ⟨.inr rfl, _, resl1 rfl, none, 0, hS0, rfl, OW.nil⟩
  · with_reducible refine W.skip ?_
    refine Ex.thn_norm ?_
    with_reducible refine W.seq ?_
    with_reducible refine W.region ?_
    refine GL.lit (cs := []) (xs := ([] : List UInt8)) hS0 .nil rfl rfl rfl Try.underlying22 info5 rfl rfl rfl (by decide) (by decide) rfl rfl rfl rfl rfl RA.nil rfl (fun H5 hS6 hO7 hk8 => ?_)
    refine WL.move .nil rfl rfl rfl rfl ?_
    refine GL.append (α := UInt8) hS6 .nil rfl rfl rfl Try.underlying22 Try.underlying22 rfl info5 rfl rfl rfl (by decide) rfl rfl hO7 (by omega) (by omega) (h4.up (n' := n0) hS0 hk8) (by simpa using hlen) (fun a9 c10 n11 H12 hS13 hn14 hO15 hk16 hid17 => ?_)
    refine WL.assign .nil rfl rfl rfl rfl ?_
    refine WL.nil ?_
    refine Ex.thn_norm ?_
    with_reducible refine W.ret ?_
    rw [List.nil_append] at hO15
    exact ⟨.inr rfl, _, resl1 rfl, a9, c10, hS13, rfl, hO15⟩
theorem f_impl_copyRecs_k {Δ : Prims} (g : Env Try.prog Δ) {lo n0 : Nat} {H0 F0 : Heap} (hS : St lo n0 H0 F0) {a2 : Option Addr} {cap3 : Nat} {xs1 : (List GRec)} (h4 : SR F0 (.slice a2 xs1.length cap3) xs1) {res : ((List GRec))} (hr : f_impl_copyRecs xs1 = some res) :
    C Try.prog Δ n0 61 [.slice a2 xs1.length cap3] n0 H0 (fun v n H => ∃ (F : Heap) (ra1 : Option Addr) (rcap2 : Nat), Ext n0 F0 n F ∧ St n0 n H F ∧ v = .slice ra1 res.length rcap2 ∧ OW n0 n H F (.slice ra1 res.length rcap2) res) := by
 refine C.body Try.func61 rfl rfl ?_
 unfold f_impl_copyRecs at hr
 have hS0 : St n0 n0 H0 F0 := hS.low (Nat.le_refl _)
 have hE0 := Ext.refl n0 F0
 have hlo0 := hS0.lo
 with_reducible refine W.seq ?_
 with_reducible refine W.region ?_
 refine WL.assign .nil rfl rfl rfl rfl ?_
 refine WL.nil ?_
 refine Ex.thn_norm ?_
 with_reducible refine W.seq ?_
 with_reducible refine W.region ?_
 refine GL.lit (cs := []) (xs := ([] : List GRec)) hS0 .nil rfl rfl rfl Try.underlying28 info35 rfl rfl rfl (by decide) (by decide) rfl rfl rfl rfl rfl RA.nil rfl (fun H5 hS6 hO7 hk8 => ?_)
 have h9 := OW.lower (lo' := n0) hO7 (by omega)
 have hlon01 := hS6.lo
 refine WL.assign .nil rfl rfl rfl rfl ?_
 refine WL.nil ?_
 refine Ex.thn_norm ?_
 with_reducible refine W.seq ?_
 with_reducible refine W.seq ?_
 with_reducible refine W.region ?_
 refine WL.move .nil rfl rfl rfl rfl ?_
 refine WL.len .nil rfl rfl rfl Try.underlying28 rfl ?_
 refine WL.move .nil rfl rfl rfl rfl ?_
 refine WL.nil ?_
 refine Ex.thn_norm ?_
 with_reducible refine W.block ?_
 refine W.loopF (fun k0 fr n H => ∃ (a357 : Option Addr) (cap358 : Nat) (xs359 : (List GRec)) (x363 : Int) (F : Heap), fr = [(3, .slice a357 xs359.length cap358), (7, .slice a2 xs1.length cap3), (8, .int .i64 (xs1.length : Int)), (9, .int .i64 x363)] ∧ St n0 n H F ∧ Ext n0 F0 n F ∧ OW n0 n H F (.slice a357 xs359.length cap358) xs359 ∧ SR F (.slice a2 xs1.length cap3) xs1 ∧ f_impl_copyRecs_L0 xs1 k0 xs359 x363 = some res) BIG (fr0 := [(3, .slice (some ⟨n0, 0, none⟩) ([] : List GRec).length 0), (7, .slice a2 xs1.length cap3), (8, .int .i64 (xs1.length : Int)), (9, .int .i64 0)]) (Fr.le_cons rfl (Fr.le_cons rfl (Fr.le_cons rfl (Fr.le_cons rfl Fr.le_nil)))) ?_ ?_ ?_
 {
 exact ⟨(some ⟨n0, 0, none⟩), 0, ([] : List GRec), 0, F0, rfl, hS6, (hE0.up (by omega)), h9, h4, hr⟩
 }
 {
 intro fr n H hI
 obtain ⟨a357, cap358, xs359, x363, F354, hfr, hS355, hE356, h360, h362, hr⟩ := hI
 rw [f_impl_copyRecs_L0] at hr
 cases hr
 }
 {
 intro k0 _ n352 H353 hI
 obtain ⟨a357, cap358, xs359, x363, F354, rfl, hS355, hE356, h360, h362, hr⟩ := hI
 have hlen352 := hE356.le
 have hlon352 := hS355.lo
 rw [f_impl_copyRecs_L0] at hr
 with_reducible refine W.seq ?_
 with_reducible refine W.region ?_
 refine WL.bin .nil rfl rfl rfl rfl rfl rfl ?_
 refine WL.nil ?_
 refine Ex.thn_norm ?_
 with_reducible refine W.seq ?_
 refine W.condD rfl (fun hc365 => ?_) (fun hc365 => ?_)
 {
 replace hr := ite_pos hr hc365
 with_reducible refine W.skip ?_
 refine Ex.thn_norm ?_
 with_reducible refine W.seq ?_
 with_reducible refine W.block ?_
 with_reducible refine W.seq ?_
 with_reducible refine W.region ?_
 obtain ⟨x445, hx445, hr⟩ := bnd_some hr
 refine GL.index .nil rfl rfl rfl Try.underlying28 info35 rfl rfl h362 hS355.fh rfl hx445 (fun b446 kp447 c448 ecs449 hrow450 hwin451 hR452 => ?_)
 obtain ⟨a453, cap454, rfl, h455⟩ := GRec.ofR hR452
 refine WL.loadN .nil (l' := [.int .i64 x445.Term, .int .i64 x445.Index, .slice a453 x445.Data.length cap454]) rfl rfl rfl Try.underlying35 rfl info35 rfl hrow450 hwin451 rfl ?_
 refine GL.alloc hS355 .nil (zc := [.int .i64 0, .int .i64 0, .slice none 0 0]) rfl rfl rfl info35 rfl rfl rfl (fun H456 hS457 ho458 hk459 => ?_)
 have fo460 := hS355.fnone (Nat.le_refl _)
 have h462 := OW.keep (n' := (n352 + 1)) h360 (by omega) (fun i hi => hk459 i (OW.id_lt h360 hi).2)
 have hlon3521 := hS457.lo
 have lt461 : n352 < (n352 + 1) := by omega
 refine GL.store hS457 .nil (vc := [.int .i64 x445.Term, .int .i64 x445.Index, .slice a453 x445.Data.length cap454]) (c' := [.int .i64 x445.Term, .int .i64 x445.Index, .slice a453 x445.Data.length cap454]) rfl rfl rfl info35 rfl rfl rfl rfl ho458 fo460 (Nat.le_of_ble_eq_true rfl) (by omega) (by repeat' (first | exact List.forall_mem_nil _ | refine List.forall_mem_cons.2 ⟨?_, ?_⟩ | rfl)) rfl (fun H463 hS464 ho465 hk466 => ?_)
 have h467 := OW.keep h462 (Nat.le_refl _) (fun i hi => hk466 i (fun hj => (Ap.alloc (OW.hb h360)) (hj ▸ hi)))
 refine WL.nil ?_
 refine Ex.thn_norm ?_
 with_reducible refine W.seq ?_
 with_reducible refine W.region ?_
 refine WL.fieldAddr .nil rfl rfl rfl Try.underlying35 rfl info22 rfl rfl ?_
 refine WL.load1 .nil rfl rfl rfl Try.underlying22 rfl rfl ho465 rfl ?_
 obtain ⟨x468, hx468, hr⟩ := bnd_some hr
 refine GL.callP g.good .nil rfl rfl rfl rfl rfl rfl Try.func59 rfl rfl hS464.lo (f_slices_Clone_byte_k  g hS464 (SR.src h455 hS464.fh) hx468) (fun v n469 H470 hn471 hk472 hp473 => ?_)
 obtain ⟨a474, cap475, hS477, rfl, h476⟩ := hp473
 have ho478 := (hk472 _ (by have := lt461; omega)).trans ho465
 have h479 := OW.keep (n' := n469) h467 (by omega) (fun i hi => hk472 i (OW.id_lt h467 hi).2)
 have hS480 : St n0 n469 H470 F354 := ⟨by have := hS464.lo; omega, hS477.hb, hS477.fh⟩
 have hlon469 := hS480.lo
 have h481 := OW.lower (lo' := n0) h476 (by omega)
 refine WL.fieldAddr .nil rfl rfl rfl Try.underlying35 rfl info22 rfl rfl ?_
 refine GL.store hS480 .nil (vc := [.slice a474 x468.length cap475]) (c' := [.int .i64 x445.Term, .int .i64 x445.Index, .slice a474 x468.length cap475]) rfl rfl rfl info22 rfl rfl rfl rfl ho478 fo460 (Nat.le_of_ble_eq_true rfl) (by omega) (one1 rfl) rfl (fun H485 hS486 ho487 hk488 => ?_)
 have h489 := OW.keep h479 (Nat.le_refl _) (fun i hi => hk488 i (fun hj => (Ap.alloc (OW.hb h360)) (hj ▸ hi)))
 have h490 := OW.keep h481 (Nat.le_refl _) (fun i hi => hk488 i (fun hj => (Ap.fresh0 (OW.lb h476) (by have := lt461; omega)) (hj ▸ hi)))
 refine WL.nil ?_
 refine Ex.thn_norm ?_
 with_reducible refine W.region ?_
 refine WL.move .nil rfl rfl rfl rfl ?_
 refine WL.loadN .nil (l' := [.int .i64 x445.Term, .int .i64 x445.Index, .slice a474 x468.length cap475]) rfl rfl rfl Try.underlying35 rfl info35 rfl ho487 rfl rfl ?_
 obtain ⟨F491, hS492, hle493, h494, hf495⟩ := OW.freeze h490 hS486
 have fo496 := (hf495 _ (Ap.fresh0 (OW.lb h476) (by have := lt461; omega))).trans fo460
 have h497 := OW.keepF h489 hle493 (fun i hi => (hf495 i (fun hj => (Ap.fresh (OW.lb h476) (OW.hb h467)) i hj hi)).trans (OW.fnone h489 hi))
 have hE498 : Ext n0 F0 n469 F491 := ⟨Nat.le_trans hE356.le (by omega), hE356.sub.trans hle493, fun i hi => (hf495 i (fun hj => by have := OW.id_lt h490 hj; omega)).trans (hE356.eq i hi)⟩
 refine GL.lit (cs := [.int .i64 x445.Term, .int .i64 x445.Index, .slice a474 x468.length cap475]) (xs := ([({ Term := x445.Term, Index := x445.Index, Data := x468 } : GRec)] : List GRec)) hS492 .nil rfl rfl rfl Try.underlying28 info35 rfl rfl rfl (by decide) (by decide) rfl rfl rfl rfl rfl (RA.cons (cs := [.int .i64 x445.Term, .int .i64 x445.Index, .slice a474 x468.length cap475]) (a := (({ Term := x445.Term, Index := x445.Index, Data := x468 } : GRec) : GRec)) (GRec.toR (x := ({ Term := x445.Term, Index := x445.Index, Data := x468 } : GRec)) h494) RA.nil) rfl (fun H499 hS500 hO501 hk502 => ?_)
 have ho503 := (hk502 _ (by have := lt461; omega)).trans ho487
 have h504 := OW.keep (n' := (n469 + 1)) h497 (by omega) (fun i hi => hk502 i (OW.id_lt h497 hi).2)
 have h505 := OW.lower (lo' := n0) hO501 (by omega)
 have hlon4691 := hS500.lo
 obtain ⟨hc509, hr⟩ := chk_some hr
 refine GL.append (α := GRec) hS500 .nil rfl rfl rfl Try.underlying28 Try.underlying28 rfl info35 rfl rfl rfl (by decide) rfl rfl h504 (by omega) (by omega) (OW.src h505) hc509 (fun a510 cap511 n512 H513 hS514 hn515 hO516 hk517 hid518 => ?_)
 have ho519 := (hk517 _ (by have := lt461; omega) (Ap.alloc (OW.hb h360))).trans ho503
 have h520 := OW.keep h505 hn515 (fun i hi => hk517 i (OW.id_lt h505 hi).2 (fun hj => (Ap.sym (Ap.fresh (OW.lb hO501) (OW.hb h497))) _ hj hi))
 have hlon512 := hS514.lo
 refine WL.assign .nil rfl rfl rfl rfl ?_
 refine WL.nil ?_
 with_reducible refine Ex.blk_norm ?_
 refine Ex.thn_norm ?_
 with_reducible refine W.region ?_
 obtain ⟨hc524, hr⟩ := chk_some hr
 refine WL.addI .nil rfl rfl rfl rfl rfl hc524.1 hc524.2 ?_
 refine WL.move .nil rfl rfl rfl rfl ?_
 refine WL.nil ?_
 refine Ex.thn_norm ?_
 exact ⟨[(3, .slice a510 (xs359 ++ ([({ Term := x445.Term, Index := x445.Index, Data := x468 } : GRec)] : List GRec)).length cap511), (7, .slice a2 xs1.length cap3), (8, .int .i64 (xs1.length : Int)), (9, .int .i64 (x363 + 1))], (Fr.le_cons rfl (Fr.le_cons rfl (Fr.le_cons rfl (Fr.le_cons rfl Fr.le_nil)))), a510, cap511, (xs359 ++ ([({ Term := x445.Term, Index := x445.Index, Data := x468 } : GRec)] : List GRec)), (x363 + 1), F491, rfl, hS514, (hE498.up (by omega)), hO516, (h362.mono hle493), hr⟩
 }
 {
 replace hr := ite_neg hr hc365
 with_reducible refine W.exit ?_
 with_reducible refine Ex.thn_ex ?_
 with_reducible refine Ex.thn_ex ?_
 with_reducible refine Ex.blk_here ?_
 refine Ex.thn_norm ?_
 with_reducible refine W.seq ?_
 with_reducible refine W.region ?_
 refine WL.move .nil rfl rfl rfl rfl ?_
 refine WL.assign .nil rfl rfl rfl rfl ?_
 refine WL.nil ?_
 refine Ex.thn_norm ?_
 with_reducible refine W.ret ?_
 obtain rfl := Option.some.inj hr
 exact ⟨.inr rfl, _, (.cons (.tmp rfl) .nil), ⟨F354, a357, cap358, (hE356.up (by omega)), hS355, rfl, h360⟩⟩
 }
 }
theorem f__impl_Msg_copied_k {Δ : Prims} (g : Env Try.prog Δ) {lo n0 : Nat} {H0 F0 : Heap} (hS : St lo n0 H0 F0) {x1 : GMsg} {a2 : Option Addr} {cap3 : Nat} (h4 : SR F0 (.slice a2 x1.Log.length cap3) x1.Log) {res : (GMsg)} (hr : f__impl_Msg_copied x1 = some res) :
    C Try.prog Δ n0 64 [.agg [.int .i64 x1.Kind, .int .i64 x1.From, .int .i64 x1.To, .int .i64 x1.Term, .int .i64 x1.A, .int .i64 x1.B, .int .i64 x1.C, .bool x1.Ok, .slice a2 x1.Log.length cap3].toArray] n0 H0 (fun v n H => ∃ (F : Heap) (ra1 : Option Addr) (rcap2 : Nat), Ext n0 F0 n F ∧ St n0 n H F ∧ v = .agg [.int .i64 res.Kind, .int .i64 res.From, .int .i64 res.To, .int .i64 res.Term, .int .i64 res.A, .int .i64 res.B, .int .i64 res.C, .bool res.Ok, .slice ra1 res.Log.length rcap2].toArray ∧ SR F (.slice ra1 res.Log.length rcap2) res.Log) := by
 refine C.body Try.func64 rfl rfl ?_
 unfold f__impl_Msg_copied at hr
 have hS0 : St n0 n0 H0 F0 := hS.low (Nat.le_refl _)
 have hE0 := Ext.refl n0 F0
 have hlo0 := hS0.lo
 with_reducible refine W.seq ?_
 with_reducible refine W.region ?_
 refine GL.box hS0 .nil (vc := [.int .i64 x1.Kind, .int .i64 x1.From, .int .i64 x1.To, .int .i64 x1.Term, .int .i64 x1.A, .int .i64 x1.B, .int .i64 x1.C, .bool x1.Ok, .slice a2 x1.Log.length cap3]) rfl rfl rfl rfl rfl (by repeat' (first | exact List.forall_mem_nil _ | refine List.forall_mem_cons.2 ⟨?_, ?_⟩ | rfl)) (fun H5 hS6 ho7 hk8 => ?_)
 have fo9 := hS0.fnone (Nat.le_refl _)
 have hlon01 := hS6.lo
 have lt10 : n0 < (n0 + 1) := by omega
 refine GL.alloc hS6 .nil (zc := [.int .i64 0, .int .i64 0, .int .i64 0, .int .i64 0, .int .i64 0, .int .i64 0, .int .i64 0, .bool false, .slice none 0 0]) rfl rfl rfl info85 rfl rfl rfl (fun H11 hS12 ho13 hk14 => ?_)
 have fo15 := hS6.fnone (Nat.le_refl _)
 have ho17 := (hk14 _ (by have := lt10; omega)).trans ho7
 have hlon011 := hS12.lo
 have lt16 : (n0 + 1) < ((n0 + 1) + 1) := by omega
 refine WL.nil ?_
 refine Ex.thn_norm ?_
 with_reducible refine W.seq ?_
 with_reducible refine W.region ?_
 refine WL.fieldAddr .nil rfl rfl rfl Try.underlying85 rfl info28 rfl rfl ?_
 refine WL.load1 .nil rfl rfl rfl Try.underlying28 rfl rfl ho17 rfl ?_
 obtain ⟨x18, hx18, hr⟩ := bnd_some hr
 refine GL.callP g.good .nil rfl rfl rfl rfl rfl rfl Try.func61 rfl rfl hS12.lo (f_impl_copyRecs_k  g hS12 h4 hx18) (fun v n19 H20 hn21 hk22 hp23 => ?_)
 obtain ⟨F28, a24, cap25, hX29, hS27, rfl, h26⟩ := hp23
 have ho30 := (hk22 _ (by have := lt10; omega)).trans ho17
 have ho31 := (hk22 _ (by have := lt16; omega)).trans ho13
 have hS32 : St n0 n19 H20 F28 := ⟨by have := hS12.lo; omega, hS27.hb, hS27.fh⟩
 have fo33 := (hX29.eq _ (by have := lt10; omega)).trans fo9
 have fo34 := (hX29.eq _ (by have := lt16; omega)).trans fo15
 have hE35 := (hE0.up (n' := ((n0 + 1) + 1)) (by omega)).trans hX29
 have hlon19 := hS32.lo
 have h36 := OW.lower (lo' := n0) h26 (by omega)
 refine WL.fieldAddr .nil rfl rfl rfl Try.underlying85 rfl info28 rfl rfl ?_
 refine GL.store hS32 .nil (vc := [.slice a24 x18.length cap25]) (c' := [.int .i64 x1.Kind, .int .i64 x1.From, .int .i64 x1.To, .int .i64 x1.Term, .int .i64 x1.A, .int .i64 x1.B, .int .i64 x1.C, .bool x1.Ok, .slice a24 x18.length cap25]) rfl rfl rfl info28 rfl rfl rfl rfl ho30 fo33 (Nat.le_of_ble_eq_true rfl) (by omega) (one1 rfl) rfl (fun H40 hS41 ho42 hk43 => ?_)
 have ho44 := (hk43 _ (by omega)).trans ho31
 have h45 := OW.keep h36 (Nat.le_refl _) (fun i hi => hk43 i (fun hj => (Ap.fresh0 (OW.lb h26) (by have := lt10; omega)) (hj ▸ hi)))
 refine WL.nil ?_
 refine Ex.thn_norm ?_
 with_reducible refine W.seq ?_
 with_reducible refine W.region ?_
 refine WL.loadN .nil (l' := [.int .i64 x1.Kind, .int .i64 x1.From, .int .i64 x1.To, .int .i64 x1.Term, .int .i64 x1.A, .int .i64 x1.B, .int .i64 x1.C, .bool x1.Ok, .slice a24 x18.length cap25]) rfl rfl rfl Try.underlying85 rfl info85 rfl ho42 rfl rfl ?_
 refine GL.store hS41 .nil (vc := [.int .i64 x1.Kind, .int .i64 x1.From, .int .i64 x1.To, .int .i64 x1.Term, .int .i64 x1.A, .int .i64 x1.B, .int .i64 x1.C, .bool x1.Ok, .slice a24 x18.length cap25]) (c' := [.int .i64 x1.Kind, .int .i64 x1.From, .int .i64 x1.To, .int .i64 x1.Term, .int .i64 x1.A, .int .i64 x1.B, .int .i64 x1.C, .bool x1.Ok, .slice a24 x18.length cap25]) rfl rfl rfl info85 rfl rfl rfl rfl ho44 fo34 (Nat.le_of_ble_eq_true rfl) (by omega) (by repeat' (first | exact List.forall_mem_nil _ | refine List.forall_mem_cons.2 ⟨?_, ?_⟩ | rfl)) rfl (fun H46 hS47 ho48 hk49 => ?_)
 have ho50 := (hk49 _ (by omega)).trans ho42
 have h51 := OW.keep h45 (Nat.le_refl _) (fun i hi => hk49 i (fun hj => (Ap.fresh0 (OW.lb h26) (by have := lt16; omega)) (hj ▸ hi)))
 refine WL.nil ?_
 refine Ex.thn_norm ?_
 with_reducible refine W.ret ?_
 obtain ⟨F52, hS53, hle54, h55, hf56⟩ := OW.freeze h51 hS47
 have fo57 := (hf56 _ (Ap.fresh0 (OW.lb h26) (by have := lt10; omega))).trans fo33
 have fo58 := (hf56 _ (Ap.fresh0 (OW.lb h26) (by have := lt16; omega))).trans fo34
 have hE59 : Ext n0 F0 n19 F52 := ⟨Nat.le_trans hE35.le (by omega), hE35.sub.trans hle54, fun i hi => (hf56 i (fun hj => by have := OW.id_lt h51 hj; omega)).trans (hE35.eq i hi)⟩
 obtain rfl := Option.some.inj hr
 exact ⟨.inr rfl, _, (.cons (.cellN (l := [.int .i64 x1.Kind, .int .i64 x1.From, .int .i64 x1.To, .int .i64 x1.Term, .int .i64 x1.A, .int .i64 x1.B, .int .i64 x1.C, .bool x1.Ok, .slice a24 x18.length cap25]) rfl Try.underlying85 rfl info85 ho48 rfl rfl) .nil), ⟨F52, a24, cap25, (hE59.up (by omega)), hS53, rfl, h55⟩⟩
theorem f_impl_Cluster_send_k {Δ : Prims} (g : Env Try.prog Δ) {lo n0 : Nat} {H0 F0 : Heap} (hS : St lo n0 H0 F0) {p0 : Nat} {x1 : GCluster} {ez0 : Nat} {a2 : Option Addr} {cap3 : Nat} {S6 : Nat → Prop} {a7 : Option Addr} {cap8 : Nat} {a11 : Option Addr} {cap12 : Nat} {x18 : GMsg} {a19 : Option Addr} {cap20 : Nat} (ho15 : H0 p0 = some (.row ez0 [.slice a2 x1.Peers.length cap3, .slice a7 x1.Net.length cap8, .slice a11 x1.Chosen.length cap12, .bool x1.Conflict])) (fo16 : F0 p0 = none) (lo17 : lo ≤ p0) (h4 : OD lo n0 H0 F0 S6 [] (.slice a2 x1.Peers.length cap3) x1.Peers) (h9 : OW lo n0 H0 F0 (.slice a7 x1.Net.length cap8) x1.Net) (h13 : OW lo n0 H0 F0 (.slice a11 x1.Chosen.length cap12) x1.Chosen) (h21 : SR F0 (.slice a19 x18.Log.length cap20) x18.Log) (ap22 : ¬ S6 p0) (ap23 : idOf (.slice a7 x1.Net.length cap8) ≠ some p0) (ap24 : ∀ b, idOf (.slice a7 x1.Net.length cap8) = some b → ¬ S6 b) (ap25 : idOf (.slice a11 x1.Chosen.length cap12) ≠ some p0) (ap26 : ∀ b, idOf (.slice a11 x1.Chosen.length cap12) = some b → ¬ S6 b) (ap27 : ∀ b, idOf (.slice a11 x1.Chosen.length cap12) = some b → idOf (.slice a7 x1.Net.length cap8) ≠ some b) {res : (GCluster)} (hr : f_impl_Cluster_send x1 x18 = some res) :
    C Try.prog Δ lo 55 [.pointer (some ⟨p0, 0, none⟩), .agg [.int .i64 x18.Kind, .int .i64 x18.From, .int .i64 x18.To, .int .i64 x18.Term, .int .i64 x18.A, .int .i64 x18.B, .int .i64 x18.C, .bool x18.Ok, .slice a19 x18.Log.length cap20].toArray] n0 H0 (fun v n H => ∃ (F : Heap) (rS2 : Nat → Prop) (ra4 : Option Addr) (rcap5 : Nat) (ra7 : Option Addr) (rcap8 : Nat), Ext n0 F0 n F ∧ St lo n H F ∧ H p0 = some (.row ez0 [.slice a2 x1.Peers.length cap3, .slice ra4 res.Net.length rcap5, .slice ra7 res.Chosen.length rcap8, .bool res.Conflict]) ∧ v = .tuple #[] ∧ OD lo n H F rS2 [] (.slice a2 x1.Peers.length cap3) res.Peers ∧ x1.Peers.length = res.Peers.length ∧ OW lo n H F (.slice ra4 res.Net.length rcap5) res.Net ∧ OW lo n H F (.slice ra7 res.Chosen.length rcap8) res.Chosen ∧ ¬ rS2 p0 ∧ idOf (.slice ra4 res.Net.length rcap5) ≠ some p0 ∧ idOf (.slice ra7 res.Chosen.length rcap8) ≠ some p0 ∧ (∀ b, idOf (.slice ra4 res.Net.length rcap5) = some b → ¬ rS2 b) ∧ (∀ b, idOf (.slice ra7 res.Chosen.length rcap8) = some b → ¬ rS2 b) ∧ (∀ b, idOf (.slice ra7 res.Chosen.length rcap8) = some b → idOf (.slice ra4 res.Net.length rcap5) ≠ some b)) := by
 refine C.body Try.func55 rfl rfl ?_
 unfold f_impl_Cluster_send at hr
 have hS0 : St lo n0 H0 F0 := hS
 have hE0 := Ext.refl n0 F0
 have hlo0 := hS0.lo
 have lt0 := hS0.lt ho15
 with_reducible refine W.seq ?_
 with_reducible refine W.region ?_
 refine GL.box hS0 .nil (vc := [.int .i64 x18.Kind, .int .i64 x18.From, .int .i64 x18.To, .int .i64 x18.Term, .int .i64 x18.A, .int .i64 x18.B, .int .i64 x18.C, .bool x18.Ok, .slice a19 x18.Log.length cap20]) rfl rfl rfl rfl rfl (by repeat' (first | exact List.forall_mem_nil _ | refine List.forall_mem_cons.2 ⟨?_, ?_⟩ | rfl)) (fun H28 hS29 ho30 hk31 => ?_)
 have fo32 := hS0.fnone (Nat.le_refl _)
 have ho34 := (hk31 _ (by have := lt0; omega)).trans ho15
 have h35 := OD.keep (n' := (n0 + 1)) h4 (by omega) (fun i hi => hk31 i (OD.id_lt h4 hi).2)
 have h36 := OW.keep (n' := (n0 + 1)) h9 (by omega) (fun i hi => hk31 i (OW.id_lt h9 hi).2)
 have h37 := OW.keep (n' := (n0 + 1)) h13 (by omega) (fun i hi => hk31 i (OW.id_lt h13 hi).2)
 have hlon01 := hS29.lo
 have lt33 : n0 < (n0 + 1) := by omega
 refine WL.nil ?_
 refine Ex.thn_norm ?_
 with_reducible refine W.seq ?_
 with_reducible refine W.region ?_
 refine WL.move .nil rfl rfl rfl rfl ?_
 refine WL.nilCheck .nil rfl rfl rfl rfl ?_
 refine WL.fieldAddr .nil rfl rfl rfl Try.underlying30 rfl info27 rfl rfl ?_
 refine WL.load1 .nil rfl rfl rfl Try.underlying27 rfl rfl ho34 rfl ?_
 refine WL.len .nil rfl rfl rfl Try.underlying27 rfl ?_
 refine WL.bin .nil rfl rfl rfl rfl rfl rfl ?_
 refine WL.nil ?_
 refine Ex.thn_norm ?_
 refine W.condD rfl (fun hc38 => ?_) (fun hc38 => ?_)
 {
 replace hr := ite_pos hr hc38
 refine W.regionI (fun H => True) [0, 1, 2, 3, 4, 5, 6, 7, 8, 9, 10, 11] [(false, true, false), (false, false, false), (false, false, false), (false, false, false), (false, false, false), (false, false, false), (false, false, false), (false, false, false), (true, false, false), (false, false, false), (false, false, false), (true, false, true)] false rfl (by kernel_rfl) (by kernel_rfl) (by (conv => lhs; simp only [List.map_cons, List.map_nil, List.getD_cons_zero, List.getD_cons_succ]) <;> rfl) ?_
 refine WLI.late (v := .pointer (some ⟨p0, 0, none⟩)) (fun h => by cases h) rfl rfl (fun H2 hI2 => .move (.inl rfl) rfl) ?_
 refine WLI.op (fun h => by cases h) ?_
 refine WL.move .r rfl rfl rfl rfl ?_
 with_reducible refine WL.nil ⟨rfl, ?_⟩
 refine WLI.op (fun h => by cases h) ?_
 refine WL.nilCheck .r rfl rfl rfl rfl ?_
 with_reducible refine WL.nil ⟨rfl, ?_⟩
 refine WLI.op (fun h => by cases h) ?_
 refine WL.fieldAddr .r rfl rfl rfl Try.underlying30 rfl info27 rfl rfl ?_
 with_reducible refine WL.nil ⟨rfl, ?_⟩
 refine WLI.op (fun h => by cases h) ?_
 refine WL.load1 .r rfl rfl rfl Try.underlying27 rfl rfl ho34 rfl ?_
 with_reducible refine WL.nil ⟨rfl, ?_⟩
 refine WLI.op (fun h => by cases h) ?_
 refine WL.loadN .r (l' := [.int .i64 x18.Kind, .int .i64 x18.From, .int .i64 x18.To, .int .i64 x18.Term, .int .i64 x18.A, .int .i64 x18.B, .int .i64 x18.C, .bool x18.Ok, .slice a19 x18.Log.length cap20]) rfl rfl rfl Try.underlying85 rfl info85 rfl ho30 rfl rfl ?_
 with_reducible refine WL.nil ⟨rfl, ?_⟩
 refine WLI.op (fun h => by cases h) ?_
 obtain ⟨x40, hx40, hr⟩ := bnd_some hr
 refine GL.callP g.good .r rfl rfl rfl rfl rfl rfl Try.func64 rfl rfl (Nat.le_refl _) (f__impl_Msg_copied_k (x1 := ({ Kind := x18.Kind, From := x18.From, To := x18.To, Term := x18.Term, A := x18.A, B := x18.B, C := x18.C, Ok := x18.Ok, Log := x18.Log } : GMsg)) g hS29 h21 hx40) (fun v n41 H42 hn43 hk44 hp45 => ?_)
 obtain ⟨F50, a46, cap47, hX51, hS49, rfl, h48⟩ := hp45
 have ho52 := (hk44 _ (by have := lt0; omega)).trans ho34
 have ho53 := (hk44 _ (by have := lt33; omega)).trans ho30
 have h54 := OD.keep (n' := n41) h35 (by omega) (fun i hi => hk44 i (OD.id_lt h35 hi).2)
 have h55 := OW.keep (n' := n41) h36 (by omega) (fun i hi => hk44 i (OW.id_lt h36 hi).2)
 have h56 := OW.keep (n' := n41) h37 (by omega) (fun i hi => hk44 i (OW.id_lt h37 hi).2)
 have hS57 : St lo n41 H42 F50 := ⟨by have := hS29.lo; omega, hS49.hb, hS49.fh⟩
 have fo58 := (hX51.eq _ (by have := lt0; omega)).trans fo16
 have fo59 := (hX51.eq _ (by have := lt33; omega)).trans fo32
 have h60 := OD.keepF h54 hX51.sub (fun i hi => (hX51.eq i (by have := OD.id_lt h35 hi; omega)).trans (OD.fnone h54 hi))
 have h61 := OW.keepF h55 hX51.sub (fun i hi => (hX51.eq i (by have := OW.id_lt h36 hi; omega)).trans (OW.fnone h55 hi))
 have h62 := OW.keepF h56 hX51.sub (fun i hi => (hX51.eq i (by have := OW.id_lt h37 hi; omega)).trans (OW.fnone h56 hi))
 have hE63 := (hE0.up (n' := (n0 + 1)) (by omega)).trans hX51
 have hlon41 := hS57.lo
 with_reducible refine WL.nil ⟨rfl, ?_⟩
 refine WLI.op (fun h => by cases h) ?_
 refine GL.lit (cs := [.int .i64 x40.Kind, .int .i64 x40.From, .int .i64 x40.To, .int .i64 x40.Term, .int .i64 x40.A, .int .i64 x40.B, .int .i64 x40.C, .bool x40.Ok, .slice a46 x40.Log.length cap47]) (xs := ([({ Kind := x40.Kind, From := x40.From, To := x40.To, Term := x40.Term, A := x40.A, B := x40.B, C := x40.C, Ok := x40.Ok, Log := x40.Log } : GMsg)] : List GMsg)) hS57 .r rfl rfl rfl Try.underlying27 info85 rfl rfl rfl (by decide) (by decide) rfl rfl rfl rfl rfl (RA.cons (cs := [.int .i64 x40.Kind, .int .i64 x40.From, .int .i64 x40.To, .int .i64 x40.Term, .int .i64 x40.A, .int .i64 x40.B, .int .i64 x40.C, .bool x40.Ok, .slice a46 x40.Log.length cap47]) (a := (({ Kind := x40.Kind, From := x40.From, To := x40.To, Term := x40.Term, A := x40.A, B := x40.B, C := x40.C, Ok := x40.Ok, Log := x40.Log } : GMsg) : GMsg)) (GMsg.toR (x := ({ Kind := x40.Kind, From := x40.From, To := x40.To, Term := x40.Term, A := x40.A, B := x40.B, C := x40.C, Ok := x40.Ok, Log := x40.Log } : GMsg)) h48) RA.nil) rfl (fun H64 hS65 hO66 hk67 => ?_)
 have ho68 := (hk67 _ (by have := lt0; omega)).trans ho52
 have ho69 := (hk67 _ (by have := lt33; omega)).trans ho53
 have h70 := OD.keep (n' := (n41 + 1)) h60 (by omega) (fun i hi => hk67 i (OD.id_lt h60 hi).2)
 have h71 := OW.keep (n' := (n41 + 1)) h61 (by omega) (fun i hi => hk67 i (OW.id_lt h61 hi).2)
 have h72 := OW.keep (n' := (n41 + 1)) h62 (by omega) (fun i hi => hk67 i (OW.id_lt h62 hi).2)
 have h73 := OW.lower (lo' := n0) hO66 (by omega)
 have hlon411 := hS65.lo
 with_reducible refine WL.nil ⟨rfl, ?_⟩
 refine WLI.op (fun h => by cases h) ?_
 obtain ⟨hc80, hr⟩ := chk_some hr
 refine GL.append (α := GMsg) hS65 .w rfl rfl rfl Try.underlying27 Try.underlying27 rfl info85 rfl rfl rfl (by decide) rfl rfl h71 (by omega) (by omega) (OW.src h73) hc80 (fun a81 cap82 n83 H84 hS85 hn86 hO87 hk88 hid89 => ?_)
 have ho90 := (hk88 _ (by have := lt0; omega) ap23).trans ho68
 have ho91 := (hk88 _ (by have := lt33; omega) (Ap.alloc (OW.hb h9))).trans ho69
 have h92 := OD.keep h70 hn86 (fun i hi => hk88 i (OD.id_lt h70 hi).2 (fun hj => ap24 _ hj hi))
 have h93 := OW.keep h72 hn86 (fun i hi => hk88 i (OW.id_lt h72 hi).2 (fun hj => (Ap.sym ap27) _ hj hi))
 have h94 := OW.keep h73 hn86 (fun i hi => hk88 i (OW.id_lt h73 hi).2 (fun hj => (Ap.sym (Ap.fresh (OW.lb hO66) (OW.hb h61))) _ hj hi))
 have hlon83 := hS85.lo
 with_reducible refine WL.nil ⟨rfl, ?_⟩
 refine WLI.op (fun h => by cases h) ?_
 refine WL.nilCheck .r rfl rfl rfl rfl ?_
 with_reducible refine WL.nil ⟨rfl, ?_⟩
 refine WLI.op (fun h => by cases h) ?_
 refine WL.fieldAddr .r rfl rfl rfl Try.underlying30 rfl info27 rfl rfl ?_
 with_reducible refine WL.nil ⟨rfl, ?_⟩
 refine WLI.op (fun _ => trivial) ?_
 refine GL.store hS85 .w (vc := [.slice a81 (x1.Net ++ ([({ Kind := x40.Kind, From := x40.From, To := x40.To, Term := x40.Term, A := x40.A, B := x40.B, C := x40.C, Ok := x40.Ok, Log := x40.Log } : GMsg)] : List GMsg)).length cap82]) (c' := [.slice a2 x1.Peers.length cap3, .slice a81 (x1.Net ++ ([({ Kind := x40.Kind, From := x40.From, To := x40.To, Term := x40.Term, A := x40.A, B := x40.B, C := x40.C, Ok := x40.Ok, Log := x40.Log } : GMsg)] : List GMsg)).length cap82, .slice a11 x1.Chosen.length cap12, .bool x1.Conflict]) rfl rfl rfl info27 rfl rfl rfl rfl ho90 fo58 (Nat.le_of_ble_eq_true rfl) lo17 (one1 rfl) rfl (fun H101 hS102 ho103 hk104 => ?_)
 have ho105 := (hk104 _ (by omega)).trans ho91
 have h106 := OD.keep h92 (Nat.le_refl _) (fun i hi => hk104 i (fun hj => ap22 (hj ▸ hi)))
 have h107 := OW.keep h93 (Nat.le_refl _) (fun i hi => hk104 i (fun hj => ap25 (hj ▸ hi)))
 have h108 := OW.keep h94 (Nat.le_refl _) (fun i hi => hk104 i (fun hj => (Ap.fresh0 (OW.lb hO66) (by have := lt0; omega)) (hj ▸ hi)))
 have h109 := OW.keep hO87 (Nat.le_refl _) (fun i hi => hk104 i (fun hj => (Ap.new0 hid89 (by have := lt0; omega) ap23) (hj ▸ hi)))
 with_reducible refine WL.nil ⟨rfl, ?_⟩
 refine WLI.nil (fun h => by cases h) ?_
 obtain rfl := Option.some.inj hr
 exact ⟨.inl rfl, _, .nil, ⟨F50, S6, a81, cap82, a11, cap12, (hE63.up (by omega)), hS102, ho103, rfl, h106, rfl, h109, h107, ap22, (Ap.new0 hid89 (by have := lt0; omega) ap23), ap25, (Ap.new hid89 (OD.hb h70) ap24), ap26, (Ap.sym (Ap.new hid89 (OW.hb h72) (Ap.sym ap27)))⟩⟩
 }
 {
 replace hr := ite_neg hr hc38
 with_reducible refine W.skip ?_
 obtain rfl := Option.some.inj hr
 exact ⟨.inl rfl, _, .nil, ⟨F0, S6, a7, cap8, a11, cap12, (hE0.up (by omega)), hS29, ho34, rfl, h35, rfl, h36, h37, ap22, ap23, ap25, ap24, ap26, ap27⟩⟩
 }
theorem f_impl_Peer_term_k {Δ : Prims} (g : Env Try.prog Δ) {lo n0 : Nat} {H0 F0 : Heap} (hS : St lo n0 H0 F0) {p0 : Nat} {x1 : GPeer} {ez0 : Nat} {a2 : Option Addr} {cap3 : Nat} {a5 : Option Addr} {cap6 : Nat} {a8 : Option Addr} {cap9 : Nat} {a11 : Option Addr} {cap12 : Nat} {x17 : Int} (ho14 : H0 p0 = some (.row ez0 [.bool x1.Up, .int .i64 x1.Term, .int .i64 x1.Vote, .int .i64 x1.Commit, .int .i64 x1.Role, .slice a2 x1.Log.length cap3, .slice a5 x1.Votes.length cap6, .slice a8 x1.Next.length cap9, .slice a11 x1.Match.length cap12])) (fo15 : F0 p0 = none) (h4 : SR F0 (.slice a2 x1.Log.length cap3) x1.Log) (h7 : SR F0 (.slice a5 x1.Votes.length cap6) x1.Votes) (h10 : SR F0 (.slice a8 x1.Next.length cap9) x1.Next) (h13 : SR F0 (.slice a11 x1.Match.length cap12) x1.Match) {res : (Int)} (hr : f_impl_Peer_term x1 x17 = some res) :
    C Try.prog Δ n0 94 [.pointer (some ⟨p0, 0, none⟩), .int .i64 x17] n0 H0 (fun v n H => St n0 n H F0 ∧ v = .int .i64 res) := by
 refine C.body Try.func94 rfl rfl ?_
 unfold f_impl_Peer_term at hr
 have hS0 : St n0 n0 H0 F0 := hS.low (Nat.le_refl _)
 have hE0 := Ext.refl n0 F0
 have hlo0 := hS0.lo
 have lt0 := hS0.lt ho14
 with_reducible refine W.seq ?_
 with_reducible refine W.region ?_
 refine WL.assign .nil rfl rfl rfl rfl ?_
 refine WL.nil ?_
 refine Ex.thn_norm ?_
 with_reducible refine W.seq ?_
 with_reducible refine W.seq ?_
 with_reducible refine W.region ?_
 refine WL.move .nil rfl rfl rfl rfl ?_
 refine WL.bin .nil rfl rfl rfl rfl rfl rfl ?_
 refine WL.nil ?_
 refine Ex.thn_norm ?_
 refine W.condD rfl (fun hc19 => ?_) (fun hc19 => ?_)
 {
 replace hr := ite_pos hr hc19
 with_reducible refine W.seq ?_
 with_reducible refine W.region ?_
 refine WL.assign .nil rfl rfl rfl rfl ?_
 refine WL.nil ?_
 refine Ex.thn_norm ?_
 with_reducible refine W.ret ?_
 with_reducible refine Ex.thn_ret ?_
 obtain rfl := Option.some.inj hr
 exact ⟨.inr rfl, _, (.cons (.tmp rfl) .nil), ⟨(Ext.st hE0 hS0), rfl⟩⟩
 }
 {
 replace hr := ite_neg hr hc19
 with_reducible refine W.skip ?_
 refine Ex.thn_norm ?_
 with_reducible refine W.seq ?_
 with_reducible refine W.region ?_
 refine WL.move .nil rfl rfl rfl rfl ?_
 refine WL.nilCheck .nil rfl rfl rfl rfl ?_
 refine WL.fieldAddr .nil rfl rfl rfl Try.underlying42 rfl info28 rfl rfl ?_
 refine WL.load1 .nil rfl rfl rfl Try.underlying28 rfl rfl ho14 rfl ?_
 refine WL.move .nil rfl rfl rfl rfl ?_
 obtain ⟨hc20, hr⟩ := chk_some hr
 refine WL.subI .nil rfl rfl rfl rfl rfl hc20.1 hc20.2 ?_
 obtain ⟨x21, hx21, hr⟩ := bnd_some hr
 refine GL.index .nil rfl rfl rfl Try.underlying28 info35 rfl rfl h4 hS0.fh rfl hx21 (fun b22 kp23 c24 ecs25 hrow26 hwin27 hR28 => ?_)
 obtain ⟨a29, cap30, rfl, h31⟩ := GRec.ofR hR28
 refine WL.fieldAddr .nil rfl rfl rfl Try.underlying35 rfl info3 rfl rfl ?_
 refine WL.load1 .nil rfl rfl rfl Try.underlying3 rfl rfl hrow26 ((win_get0 hwin27 (show (0 : Nat) < 3 by decide)).trans rfl) ?_
 refine WL.assign .nil rfl rfl rfl rfl ?_
 refine WL.nil ?_
 refine Ex.thn_norm ?_
 with_reducible refine W.ret ?_
 obtain rfl := Option.some.inj hr
 exact ⟨.inr rfl, _, (.cons (.tmp rfl) .nil), ⟨(Ext.st hE0 hS0), rfl⟩⟩
 }
theorem f_impl_Peer_term_elem0_k {Δ : Prims} (g : Env Try.prog Δ) {lo n0 : Nat} {H0 F0 : Heap} (hS : St lo n0 H0 F0) {b0 el0 ez0 : Nat} {xc0 : List Value} {x1 : GPeer} {lw0 : Nat} {a2 : Option Addr} {cap3 : Nat} {a6 : Option Addr} {cap7 : Nat} {a8 : Option Addr} {cap9 : Nat} {a10 : Option Addr} {cap11 : Nat} {x14 : Int} (hrow12 : H0 b0 = some (.row ez0 xc0)) (hwin13 : (xc0.drop el0).take 9 = [.bool x1.Up, .int .i64 x1.Term, .int .i64 x1.Vote, .int .i64 x1.Commit, .int .i64 x1.Role, .slice a2 x1.Log.length cap3, .slice a6 x1.Votes.length cap7, .slice a8 x1.Next.length cap9, .slice a10 x1.Match.length cap11]) (h5 : OW lw0 n0 H0 F0 (.slice a2 x1.Log.length cap3) x1.Log) {res : (Int)} (hr : f_impl_Peer_term_elem0 x1 x14 = some res) :
    C Try.prog Δ n0 94 [.pointer (some ⟨b0, el0, none⟩), .int .i64 x14] n0 H0 (fun v n H => St n0 n H F0 ∧ v = .int .i64 res) := by
 refine C.body Try.func94 rfl rfl ?_
 unfold f_impl_Peer_term_elem0 at hr
 have hS0 : St n0 n0 H0 F0 := hS.low (Nat.le_refl _)
 have hE0 := Ext.refl n0 F0
 have hlo0 := hS0.lo
 with_reducible refine W.seq ?_
 with_reducible refine W.region ?_
 refine WL.assign .nil rfl rfl rfl rfl ?_
 refine WL.nil ?_
 refine Ex.thn_norm ?_
 with_reducible refine W.seq ?_
 with_reducible refine W.seq ?_
 with_reducible refine W.region ?_
 refine WL.move .nil rfl rfl rfl rfl ?_
 refine WL.bin .nil rfl rfl rfl rfl rfl rfl ?_
 refine WL.nil ?_
 refine Ex.thn_norm ?_
 refine W.condD rfl (fun hc16 => ?_) (fun hc16 => ?_)
 {
 replace hr := ite_pos hr hc16
 with_reducible refine W.seq ?_
 with_reducible refine W.region ?_
 refine WL.assign .nil rfl rfl rfl rfl ?_
 refine WL.nil ?_
 refine Ex.thn_norm ?_
 with_reducible refine W.ret ?_
 with_reducible refine Ex.thn_ret ?_
 obtain rfl := Option.some.inj hr
 exact ⟨.inr rfl, _, (.cons (.tmp rfl) .nil), ⟨(Ext.st hE0 hS0), rfl⟩⟩
 }
 {
 replace hr := ite_neg hr hc16
 with_reducible refine W.skip ?_
 refine Ex.thn_norm ?_
 with_reducible refine W.seq ?_
 with_reducible refine W.region ?_
 refine WL.move .nil rfl rfl rfl rfl ?_
 refine WL.nilCheck .nil rfl rfl rfl rfl ?_
 refine WL.fieldAddr .nil rfl rfl rfl Try.underlying42 rfl info28 rfl rfl ?_
 refine WL.load1 .nil rfl rfl rfl Try.underlying28 rfl rfl hrow12 ((win_get (m := 5) hwin13 (show (5 : Nat) < 9 by decide)).trans rfl) ?_
 refine WL.move .nil rfl rfl rfl rfl ?_
 obtain ⟨hc17, hr⟩ := chk_some hr
 refine WL.subI .nil rfl rfl rfl rfl rfl hc17.1 hc17.2 ?_
 obtain ⟨x18, hx18, hr⟩ := bnd_some hr
 refine GL.indexO .nil rfl rfl rfl Try.underlying28 info35 rfl rfl h5 rfl hx18 (fun b19 kp20 c21 ecs22 hid26 hrow23 hwin24 hR25 hup27 => ?_)
 obtain ⟨a28, cap29, rfl, h30⟩ := GRec.ofR hR25
 refine WL.fieldAddr .nil rfl rfl rfl Try.underlying35 rfl info3 rfl rfl ?_
 refine WL.load1 .nil rfl rfl rfl Try.underlying3 rfl rfl hrow23 ((win_get0 hwin24 (show (0 : Nat) < 3 by decide)).trans rfl) ?_
 refine WL.assign .nil rfl rfl rfl rfl ?_
 refine WL.nil ?_
 refine Ex.thn_norm ?_
 with_reducible refine W.ret ?_
 obtain rfl := Option.some.inj hr
 exact ⟨.inr rfl, _, (.cons (.tmp rfl) .nil), ⟨(Ext.st hE0 hS0), rfl⟩⟩
 }
theorem f_impl_Peer_last_elem0_k {Δ : Prims} (g : Env Try.prog Δ) {lo n0 : Nat} {H0 F0 : Heap} (hS : St lo n0 H0 F0) {b0 el0 ez0 : Nat} {xc0 : List Value} {x1 : GPeer} {lw0 : Nat} {a2 : Option Addr} {cap3 : Nat} {a6 : Option Addr} {cap7 : Nat} {a8 : Option Addr} {cap9 : Nat} {a10 : Option Addr} {cap11 : Nat} (hrow12 : H0 b0 = some (.row ez0 xc0)) (hwin13 : (xc0.drop el0).take 9 = [.bool x1.Up, .int .i64 x1.Term, .int .i64 x1.Vote, .int .i64 x1.Commit, .int .i64 x1.Role, .slice a2 x1.Log.length cap3, .slice a6 x1.Votes.length cap7, .slice a8 x1.Next.length cap9, .slice a10 x1.Match.length cap11]) (h5 : OW lw0 n0 H0 F0 (.slice a2 x1.Log.length cap3) x1.Log) {res : (Int × Int)} (hr : f_impl_Peer_last_elem0 x1 = some res) :
    C Try.prog Δ n0 86 [.pointer (some ⟨b0, el0, none⟩)] n0 H0 (fun v n H => St n0 n H F0 ∧ v = .tuple #[.int .i64 res.1, .int .i64 res.2]) := by
 refine C.body Try.func86 rfl rfl ?_
 unfold f_impl_Peer_last_elem0 at hr
 have hS0 : St n0 n0 H0 F0 := hS.low (Nat.le_refl _)
 have hE0 := Ext.refl n0 F0
 have hlo0 := hS0.lo
 with_reducible refine W.seq ?_
 with_reducible refine W.region ?_
 refine WL.assign .nil rfl rfl rfl rfl ?_
 refine WL.assign .nil rfl rfl rfl rfl ?_
 refine WL.nil ?_
 refine Ex.thn_norm ?_
 with_reducible refine W.seq ?_
 refine W.regionD [0, 1, 2, 3, 4, 5, 6, 7, 8, 9, 10, 11, 12, 13] [false, false, false, false, false, false, false, false, false, false, false, false, false, false] rfl rfl (by kernel_rfl) (by kernel_rfl) (by (conv => lhs; simp only [List.map_cons, List.map_nil, List.getD_cons_zero, List.getD_cons_succ]) <;> rfl) ?_
 refine WL.move .r rfl rfl rfl rfl ?_
 refine WL.nilCheck .r rfl rfl rfl rfl ?_
 refine WL.fieldAddr .r rfl rfl rfl Try.underlying42 rfl info28 rfl rfl ?_
 refine WL.load1 .r rfl rfl rfl Try.underlying28 rfl rfl hrow12 ((win_get (m := 5) hwin13 (show (5 : Nat) < 9 by decide)).trans rfl) ?_
 refine WL.len .r rfl rfl rfl Try.underlying28 rfl ?_
 refine WL.move .r rfl rfl rfl rfl ?_
 refine WL.move .r rfl rfl rfl rfl ?_
 refine WL.nilCheck .r rfl rfl rfl rfl ?_
 refine WL.fieldAddr .r rfl rfl rfl Try.underlying42 rfl info28 rfl rfl ?_
 refine WL.load1 .r rfl rfl rfl Try.underlying28 rfl rfl hrow12 ((win_get (m := 5) hwin13 (show (5 : Nat) < 9 by decide)).trans rfl) ?_
 refine WL.len .r rfl rfl rfl Try.underlying28 rfl ?_
 obtain ⟨x14, hx14, hr⟩ := bnd_some hr
 refine GL.callP g.good .r rfl rfl rfl rfl rfl rfl Try.func94 rfl rfl (Nat.le_refl _) (f_impl_Peer_term_elem0_k  g hS0 hrow12 hwin13 h5 hx14) (fun v n15 H16 hn17 hk18 hp19 => ?_)
 obtain ⟨hS20, rfl⟩ := hp19
 have h21 := OW.keep (n' := n15) h5 (by omega) (fun i hi => hk18 i (OW.id_lt h5 hi).2)
 have hS22 : St n0 n15 H16 F0 := ⟨by have := hS0.lo; omega, hS20.hb, hS20.fh⟩
 have hlon15 := hS22.lo
 refine WL.assign .r rfl rfl rfl rfl ?_
 refine WL.assign .r rfl rfl rfl rfl ?_
 refine WL.nil ?_
 refine Ex.thn_norm ?_
 with_reducible refine W.ret ?_
 obtain rfl := Option.some.inj hr
 exact ⟨.inr rfl, _, (.cons (.tmp rfl) (.cons (.tmp rfl) .nil)), ⟨(Ext.st hE0 hS22), rfl⟩⟩
theorem f_impl_most_k {Δ : Prims} (g : Env Try.prog Δ) {lo n0 : Nat} {H0 F0 : Heap} (hS : St lo n0 H0 F0) {x1 : Int} {res : (Int)} (hr : f_impl_most x1 = some res) :
    C Try.prog Δ n0 34 [.int .i64 x1] n0 H0 (fun v n H => St n0 n H F0 ∧ v = .int .i64 res) := by
 refine C.body Try.func34 rfl rfl ?_
 unfold f_impl_most at hr
 have hS0 : St n0 n0 H0 F0 := hS.low (Nat.le_refl _)
 have hE0 := Ext.refl n0 F0
 have hlo0 := hS0.lo
 with_reducible refine W.seq ?_
 with_reducible refine W.region ?_
 refine WL.assign .nil rfl rfl rfl rfl ?_
 refine WL.nil ?_
 refine Ex.thn_norm ?_
 with_reducible refine W.seq ?_
 with_reducible refine W.region ?_
 refine WL.move .nil rfl rfl rfl rfl ?_
 obtain ⟨hc2, hr⟩ := chk_some hr
 refine WL.quoI .nil rfl rfl rfl rfl rfl hc2.1 hc2.2.1 hc2.2.2 ?_
 obtain ⟨hc3, hr⟩ := chk_some hr
 refine WL.addI .nil rfl rfl rfl rfl rfl hc3.1 hc3.2 ?_
 refine WL.assign .nil rfl rfl rfl rfl ?_
 refine WL.nil ?_
 refine Ex.thn_norm ?_
 with_reducible refine W.ret ?_
 obtain rfl := Option.some.inj hr
 exact ⟨.inr rfl, _, (.cons (.tmp rfl) .nil), ⟨(Ext.st hE0 hS0), rfl⟩⟩
theorem f_slices_Equal_byte_k {Δ : Prims} (g : Env Try.prog Δ) {lo n0 : Nat} {H0 F0 : Heap} (hS : St lo n0 H0 F0) {a2 : Option Addr} {cap3 : Nat} {xs1 : (List UInt8)} {a6 : Option Addr} {cap7 : Nat} {xs5 : (List UInt8)} (h4 : SR F0 (.slice a2 xs1.length cap3) xs1) (h8 : SR F0 (.slice a6 xs5.length cap7) xs5) {res : (Bool)} (hr : f_slices_Equal_byte xs1 xs5 = some res) :
    C Try.prog Δ n0 75 [.slice a2 xs1.length cap3, .slice a6 xs5.length cap7] n0 H0 (fun v n H => St n0 n H F0 ∧ v = .bool res) := by
 refine C.body Try.func75 rfl rfl ?_
 unfold f_slices_Equal_byte at hr
 have hS0 : St n0 n0 H0 F0 := hS.low (Nat.le_refl _)
 have hE0 := Ext.refl n0 F0
 have hlo0 := hS0.lo
 with_reducible refine W.seq ?_
 with_reducible refine W.region ?_
 refine WL.assign .nil rfl rfl rfl rfl ?_
 refine WL.nil ?_
 refine Ex.thn_norm ?_
 with_reducible refine W.seq ?_
 with_reducible refine W.seq ?_
 with_reducible refine W.region ?_
 refine WL.move .nil rfl rfl rfl rfl ?_
 refine WL.len .nil rfl rfl rfl Try.underlying22 rfl ?_
 refine WL.move .nil rfl rfl rfl rfl ?_
 refine WL.len .nil rfl rfl rfl Try.underlying22 rfl ?_
 refine WL.bin .nil rfl rfl rfl rfl rfl rfl ?_
 refine WL.nil ?_
 refine Ex.thn_norm ?_
 refine W.condN rfl (fun hc10 => ?_) (fun hc10 => ?_)
 {
 replace hr := ite_neg hr hc10
 with_reducible refine W.seq ?_
 with_reducible refine W.region ?_
 refine WL.assign .nil rfl rfl rfl rfl ?_
 refine WL.nil ?_
 refine Ex.thn_norm ?_
 with_reducible refine W.ret ?_
 with_reducible refine Ex.thn_ret ?_
 obtain rfl := Option.some.inj hr
 exact ⟨.inr rfl, _, (.cons (.tmp rfl) .nil), ⟨(Ext.st hE0 hS0), rfl⟩⟩
 }
 {
 replace hr := ite_pos hr hc10
 with_reducible refine W.skip ?_
 refine Ex.thn_norm ?_
 with_reducible refine W.seq ?_
 with_reducible refine W.seq ?_
 with_reducible refine W.region ?_
 refine WL.move .nil rfl rfl rfl rfl ?_
 refine WL.len .nil rfl rfl rfl Try.underlying22 rfl ?_
 refine WL.move .nil rfl rfl rfl rfl ?_
 refine WL.nil ?_
 refine Ex.thn_norm ?_
 with_reducible refine W.block ?_
 refine W.loopF (fun k0 fr n H => ∃ (x107 : Int) (F : Heap), fr = [(0, .slice a2 xs1.length cap3), (1, .slice a6 xs5.length cap7), (12, .int .i64 (xs1.length : Int)), (13, .int .i64 x107)] ∧ St n0 n H F ∧ Ext n0 F0 n F ∧ SR F (.slice a2 xs1.length cap3) xs1 ∧ SR F (.slice a6 xs5.length cap7) xs5 ∧ f_slices_Equal_byte_L0 xs1 xs5 k0 x107 = some res) BIG (fr0 := [(0, .slice a2 xs1.length cap3), (1, .slice a6 xs5.length cap7), (12, .int .i64 (xs1.length : Int)), (13, .int .i64 0)]) (Fr.le_cons rfl (Fr.le_cons rfl (Fr.le_cons rfl (Fr.le_cons rfl Fr.le_nil)))) ?_ ?_ ?_
 {
 exact ⟨0, F0, rfl, hS0, hE0, h4, h8, hr⟩
 }
 {
 intro fr n H hI
 obtain ⟨x107, F102, hfr, hS103, hE104, h105, h106, hr⟩ := hI
 rw [f_slices_Equal_byte_L0] at hr
 cases hr
 }
 {
 intro k0 _ n100 H101 hI
 obtain ⟨x107, F102, rfl, hS103, hE104, h105, h106, hr⟩ := hI
 have hlen100 := hE104.le
 have hlon100 := hS103.lo
 rw [f_slices_Equal_byte_L0] at hr
 with_reducible refine W.seq ?_
 with_reducible refine W.region ?_
 refine WL.bin .nil rfl rfl rfl rfl rfl rfl ?_
 refine WL.nil ?_
 refine Ex.thn_norm ?_
 with_reducible refine W.seq ?_
 refine W.condD rfl (fun hc109 => ?_) (fun hc109 => ?_)
 {
 replace hr := ite_pos hr hc109
 with_reducible refine W.skip ?_
 refine Ex.thn_norm ?_
 with_reducible refine W.seq ?_
 with_reducible refine W.block ?_
 with_reducible refine W.seq ?_
 with_reducible refine W.region ?_
 refine WL.move .nil rfl rfl rfl rfl ?_
 refine WL.assign .nil rfl rfl rfl rfl ?_
 refine WL.nil ?_
 refine Ex.thn_norm ?_
 with_reducible refine W.seq ?_
 refine W.regionD [0, 1, 2, 3, 4, 5, 6, 7, 8] [false, false, false, false, false, false, false, false, false] rfl rfl (by kernel_rfl) (by kernel_rfl) (by (conv => lhs; simp only [List.map_cons, List.map_nil, List.getD_cons_zero, List.getD_cons_succ]) <;> rfl) ?_
 refine WL.move .r rfl rfl rfl rfl ?_
 refine WL.move .r rfl rfl rfl rfl ?_
 obtain ⟨x127, hx127, hr⟩ := bnd_some hr
 refine GL.index .r rfl rfl rfl Try.underlying22 info5 rfl rfl h105 hS103.fh rfl hx127 (fun b128 kp129 c130 ecs131 hrow132 hwin133 hR134 => ?_)
 have hcs : _ = ([u8 x127] : List Value) := hR134
 subst hcs
 refine WL.load1 .r rfl rfl rfl Try.underlying5 rfl rfl hrow132 ((win_get0 hwin133 (show (0 : Nat) < 1 by decide)).trans rfl) ?_
 refine WL.move .r rfl rfl rfl rfl ?_
 refine WL.move .r rfl rfl rfl rfl ?_
 obtain ⟨x135, hx135, hr⟩ := bnd_some hr
 refine GL.index .r rfl rfl rfl Try.underlying22 info5 rfl rfl h106 hS103.fh rfl hx135 (fun b136 kp137 c138 ecs139 hrow140 hwin141 hR142 => ?_)
 have hcs : _ = ([u8 x135] : List Value) := hR142
 subst hcs
 refine WL.load1 .r rfl rfl rfl Try.underlying5 rfl rfl hrow140 ((win_get0 hwin141 (show (0 : Nat) < 1 by decide)).trans rfl) ?_
 refine WL.bin .r rfl rfl rfl rfl rfl rfl ?_
 refine WL.nil ?_
 refine Ex.thn_norm ?_
 refine W.condN rfl (fun hc143 => ?_) (fun hc143 => ?_)
 {
 replace hr := ite_neg hr hc143
 with_reducible refine W.seq ?_
 with_reducible refine W.region ?_
 refine WL.assign .nil rfl rfl rfl rfl ?_
 refine WL.nil ?_
 refine Ex.thn_norm ?_
 with_reducible refine W.ret ?_
 with_reducible refine Ex.blk_ret ?_
 with_reducible refine Ex.thn_ret ?_
 with_reducible refine Ex.thn_ret ?_
 with_reducible refine Ex.blk_ret ?_
 with_reducible refine Ex.thn_ret ?_
 obtain rfl := Option.some.inj hr
 exact ⟨.inr rfl, _, (.cons (.tmp rfl) .nil), ⟨(Ext.st hE104 hS103), rfl⟩⟩
 }
 {
 replace hr := ite_pos hr hc143
 with_reducible refine W.skip ?_
 with_reducible refine Ex.blk_norm ?_
 refine Ex.thn_norm ?_
 with_reducible refine W.region ?_
 obtain ⟨hc144, hr⟩ := chk_some hr
 refine WL.addI .nil rfl rfl rfl rfl rfl hc144.1 hc144.2 ?_
 refine WL.move .nil rfl rfl rfl rfl ?_
 refine WL.nil ?_
 refine Ex.thn_norm ?_
 exact ⟨[(0, .slice a2 xs1.length cap3), (1, .slice a6 xs5.length cap7), (12, .int .i64 (xs1.length : Int)), (13, .int .i64 (x107 + 1))], (Fr.le_cons rfl (Fr.le_cons rfl (Fr.le_cons rfl (Fr.le_cons rfl Fr.le_nil)))), (x107 + 1), F102, rfl, hS103, hE104, h105, h106, hr⟩
 }
 }
 {
 replace hr := ite_neg hr hc109
 with_reducible refine W.exit ?_
 with_reducible refine Ex.thn_ex ?_
 with_reducible refine Ex.thn_ex ?_
 with_reducible refine Ex.blk_here ?_
 refine Ex.thn_norm ?_
 with_reducible refine W.seq ?_
 with_reducible refine W.region ?_
 refine WL.assign .nil rfl rfl rfl rfl ?_
 refine WL.nil ?_
 refine Ex.thn_norm ?_
 with_reducible refine W.ret ?_
 obtain rfl := Option.some.inj hr
 exact ⟨.inr rfl, _, (.cons (.tmp rfl) .nil), ⟨(Ext.st hE104 hS103), rfl⟩⟩
 }
 }
 }
theorem f_impl_sameRec_k {Δ : Prims} (g : Env Try.prog Δ) {lo n0 : Nat} {H0 F0 : Heap} (hS : St lo n0 H0 F0) {x1 : GRec} {a2 : Option Addr} {cap3 : Nat} {x5 : GRec} {a6 : Option Addr} {cap7 : Nat} (h4 : SR F0 (.slice a2 x1.Data.length cap3) x1.Data) (h8 : SR F0 (.slice a6 x5.Data.length cap7) x5.Data) {res : (Bool)} (hr : f_impl_sameRec x1 x5 = some res) :
    C Try.prog Δ n0 41 [.agg [.int .i64 x1.Term, .int .i64 x1.Index, .slice a2 x1.Data.length cap3].toArray, .agg [.int .i64 x5.Term, .int .i64 x5.Index, .slice a6 x5.Data.length cap7].toArray] n0 H0 (fun v n H => St n0 n H F0 ∧ v = .bool res) := by
 refine C.body Try.func41 rfl rfl ?_
 unfold f_impl_sameRec at hr
 have hS0 : St n0 n0 H0 F0 := hS.low (Nat.le_refl _)
 have hE0 := Ext.refl n0 F0
 have hlo0 := hS0.lo
 with_reducible refine W.seq ?_
 with_reducible refine W.region ?_
 refine GL.box hS0 .nil (vc := [.int .i64 x1.Term, .int .i64 x1.Index, .slice a2 x1.Data.length cap3]) rfl rfl rfl rfl rfl (by repeat' (first | exact List.forall_mem_nil _ | refine List.forall_mem_cons.2 ⟨?_, ?_⟩ | rfl)) (fun H9 hS10 ho11 hk12 => ?_)
 have fo13 := hS0.fnone (Nat.le_refl _)
 have hlon01 := hS10.lo
 have lt14 : n0 < (n0 + 1) := by omega
 refine GL.box hS10 .nil (vc := [.int .i64 x5.Term, .int .i64 x5.Index, .slice a6 x5.Data.length cap7]) rfl rfl rfl rfl rfl (by repeat' (first | exact List.forall_mem_nil _ | refine List.forall_mem_cons.2 ⟨?_, ?_⟩ | rfl)) (fun H15 hS16 ho17 hk18 => ?_)
 have fo19 := hS10.fnone (Nat.le_refl _)
 have ho21 := (hk18 _ (by have := lt14; omega)).trans ho11
 have hlon011 := hS16.lo
 have lt20 : (n0 + 1) < ((n0 + 1) + 1) := by omega
 refine WL.assign .nil rfl rfl rfl rfl ?_
 refine WL.nil ?_
 refine Ex.thn_norm ?_
 with_reducible refine W.seq ?_
 with_reducible refine W.region ?_
 refine WL.fieldAddr .nil rfl rfl rfl Try.underlying35 rfl info3 rfl rfl ?_
 refine WL.load1 .nil rfl rfl rfl Try.underlying3 rfl rfl ho21 rfl ?_
 refine WL.fieldAddr .nil rfl rfl rfl Try.underlying35 rfl info3 rfl rfl ?_
 refine WL.load1 .nil rfl rfl rfl Try.underlying3 rfl rfl ho17 rfl ?_
 refine WL.bin .nil rfl rfl rfl rfl rfl rfl ?_
 refine WL.move .nil rfl rfl rfl rfl ?_
 refine WL.guardD rfl rfl rfl (fun hg22 => ?_) (fun hg22 => ?_)
 {
 replace hr := ite_pos hr hg22
 refine WL.fieldAddr .nil rfl rfl rfl Try.underlying35 rfl info3 rfl rfl ?_
 refine WL.load1 .nil rfl rfl rfl Try.underlying3 rfl rfl ho21 rfl ?_
 refine WL.fieldAddr .nil rfl rfl rfl Try.underlying35 rfl info3 rfl rfl ?_
 refine WL.load1 .nil rfl rfl rfl Try.underlying3 rfl rfl ho17 rfl ?_
 refine WL.bin .nil rfl rfl rfl rfl rfl rfl ?_
 refine WL.pick .nil rfl rfl rfl rfl rfl ?_
 refine WL.move .nil rfl rfl rfl rfl ?_
 refine WL.guardD rfl rfl rfl (fun hg23 => ?_) (fun hg23 => ?_)
 {
 replace hr := ite_pos hr hg23
 refine WL.fieldAddr .nil rfl rfl rfl Try.underlying35 rfl info22 rfl rfl ?_
 refine WL.load1 .nil rfl rfl rfl Try.underlying22 rfl rfl ho21 rfl ?_
 refine WL.fieldAddr .nil rfl rfl rfl Try.underlying35 rfl info22 rfl rfl ?_
 refine WL.load1 .nil rfl rfl rfl Try.underlying22 rfl rfl ho17 rfl ?_
 obtain ⟨x24, hx24, hr⟩ := bnd_some hr
 refine GL.callP g.good .nil rfl rfl rfl rfl rfl rfl Try.func75 rfl rfl hS16.lo (f_slices_Equal_byte_k  g hS16 h4 h8 hx24) (fun v n25 H26 hn27 hk28 hp29 => ?_)
 obtain ⟨hS30, rfl⟩ := hp29
 have ho31 := (hk28 _ (by have := lt14; omega)).trans ho21
 have ho32 := (hk28 _ (by have := lt20; omega)).trans ho17
 have hS33 : St n0 n25 H26 F0 := ⟨by have := hS16.lo; omega, hS30.hb, hS30.fh⟩
 have hlon25 := hS33.lo
 refine WL.pick .nil rfl rfl rfl rfl rfl ?_
 refine WL.assign .nil rfl rfl rfl rfl ?_
 refine WL.nil ?_
 refine Ex.thn_norm ?_
 with_reducible refine W.ret ?_
 obtain rfl := Option.some.inj hr
 exact ⟨.inr rfl, _, (.cons (.tmp rfl) .nil), ⟨(Ext.st hE0 hS33), rfl⟩⟩
 }
 {
 replace hr := ite_neg hr hg23
 refine WL.skip .nil rfl rfl ?_
 refine WL.skip .nil rfl rfl ?_
 refine WL.skip .nil rfl rfl ?_
 refine WL.skip .nil rfl rfl ?_
 refine WL.skip .nil rfl rfl ?_
 refine WL.pick .nil rfl rfl rfl rfl rfl ?_
 refine WL.assign .nil rfl rfl rfl rfl ?_
 refine WL.nil ?_
 refine Ex.thn_norm ?_
 with_reducible refine W.ret ?_
 obtain rfl := Option.some.inj hr
 exact ⟨.inr rfl, _, (.cons (.tmp rfl) .nil), ⟨(Ext.st hE0 hS16), rfl⟩⟩
 }
 }
 {
 replace hr := ite_neg hr hg22
 refine WL.skip .nil rfl rfl ?_
 refine WL.skip .nil rfl rfl ?_
 refine WL.skip .nil rfl rfl ?_
 refine WL.skip .nil rfl rfl ?_
 refine WL.skip .nil rfl rfl ?_
 refine WL.pick .nil rfl rfl rfl rfl rfl ?_
 refine WL.move .nil rfl rfl rfl rfl ?_
 refine WL.skip .nil rfl rfl ?_
 refine WL.skip .nil rfl rfl ?_
 refine WL.skip .nil rfl rfl ?_
 refine WL.skip .nil rfl rfl ?_
 refine WL.skip .nil rfl rfl ?_
 refine WL.pick .nil rfl rfl rfl rfl rfl ?_
 refine WL.assign .nil rfl rfl rfl rfl ?_
 refine WL.nil ?_
 refine Ex.thn_norm ?_
 with_reducible refine W.ret ?_
 obtain rfl := Option.some.inj hr
 exact ⟨.inr rfl, _, (.cons (.tmp rfl) .nil), ⟨(Ext.st hE0 hS16), rfl⟩⟩
 }
theorem f_impl_Cluster_choose_k {Δ : Prims} (g : Env Try.prog Δ) {lo n0 : Nat} {H0 F0 : Heap} (hS : St lo n0 H0 F0) {p0 : Nat} {x1 : GCluster} {ez0 : Nat} {a2 : Option Addr} {cap3 : Nat} {S6 : Nat → Prop} {a7 : Option Addr} {cap8 : Nat} {a11 : Option Addr} {cap12 : Nat} {x18 : Int} (ho15 : H0 p0 = some (.row ez0 [.slice a2 x1.Peers.length cap3, .slice a7 x1.Net.length cap8, .slice a11 x1.Chosen.length cap12, .bool x1.Conflict])) (fo16 : F0 p0 = none) (lo17 : lo ≤ p0) (h4 : OD lo n0 H0 F0 S6 [] (.slice a2 x1.Peers.length cap3) x1.Peers) (h9 : OW lo n0 H0 F0 (.slice a7 x1.Net.length cap8) x1.Net) (h13 : OW lo n0 H0 F0 (.slice a11 x1.Chosen.length cap12) x1.Chosen) (ap19 : ¬ S6 p0) (ap20 : idOf (.slice a7 x1.Net.length cap8) ≠ some p0) (ap21 : ∀ b, idOf (.slice a7 x1.Net.length cap8) = some b → ¬ S6 b) (ap22 : idOf (.slice a11 x1.Chosen.length cap12) ≠ some p0) (ap23 : ∀ b, idOf (.slice a11 x1.Chosen.length cap12) = some b → ¬ S6 b) (ap24 : ∀ b, idOf (.slice a11 x1.Chosen.length cap12) = some b → idOf (.slice a7 x1.Net.length cap8) ≠ some b) {res : (GCluster)} (hr : f_impl_Cluster_choose x1 x18 = some res) :
    C Try.prog Δ lo 95 [.pointer (some ⟨p0, 0, none⟩), .int .i64 x18] n0 H0 (fun v n H => ∃ (F : Heap) (rS2 : Nat → Prop) (ra4 : Option Addr) (rcap5 : Nat) (ra7 : Option Addr) (rcap8 : Nat), Ext n0 F0 n F ∧ St lo n H F ∧ H p0 = some (.row ez0 [.slice a2 x1.Peers.length cap3, .slice ra4 res.Net.length rcap5, .slice ra7 res.Chosen.length rcap8, .bool res.Conflict]) ∧ v = .tuple #[] ∧ OD lo n H F rS2 [] (.slice a2 x1.Peers.length cap3) res.Peers ∧ x1.Peers.length = res.Peers.length ∧ OW lo n H F (.slice ra4 res.Net.length rcap5) res.Net ∧ OW lo n H F (.slice ra7 res.Chosen.length rcap8) res.Chosen ∧ ¬ rS2 p0 ∧ idOf (.slice ra4 res.Net.length rcap5) ≠ some p0 ∧ idOf (.slice ra7 res.Chosen.length rcap8) ≠ some p0 ∧ (∀ b, idOf (.slice ra4 res.Net.length rcap5) = some b → ¬ rS2 b) ∧ (∀ b, idOf (.slice ra7 res.Chosen.length rcap8) = some b → ¬ rS2 b) ∧ (∀ b, idOf (.slice ra7 res.Chosen.length rcap8) = some b → idOf (.slice ra4 res.Net.length rcap5) ≠ some b)) := by
 refine C.body Try.func95 rfl rfl ?_
 unfold f_impl_Cluster_choose at hr
 have hS0 : St lo n0 H0 F0 := hS
 have hE0 := Ext.refl n0 F0
 have hlo0 := hS0.lo
 have lt0 := hS0.lt ho15
 with_reducible refine W.seq ?_
 with_reducible refine W.region ?_
 refine WL.move .nil rfl rfl rfl rfl ?_
 refine WL.nilCheck .nil rfl rfl rfl rfl ?_
 refine WL.fieldAddr .nil rfl rfl rfl Try.underlying30 rfl info26 rfl rfl ?_
 refine WL.load1 .nil rfl rfl rfl Try.underlying26 rfl rfl ho15 rfl ?_
 refine WL.move .nil rfl rfl rfl rfl ?_
 obtain ⟨x25, hx25, hr⟩ := bnd_some hr
 refine GL.indexD .nil rfl rfl rfl Try.underlying26 info42 rfl rfl h4 rfl hx25 (fun b26 el27 hp28 => ?_)
 refine WL.assign .nil rfl rfl rfl rfl ?_
 refine WL.nil ?_
 refine Ex.thn_norm ?_
 with_reducible refine W.seq ?_
 refine W.regionD [0, 1, 2, 3, 4, 5, 6, 7, 8, 9, 10] [false, false, false, false, false, false, false, false, false, false, false] rfl rfl (by kernel_rfl) (by kernel_rfl) (by (conv => lhs; simp only [List.map_cons, List.map_nil, List.getD_cons_zero, List.getD_cons_succ]) <;> rfl) ?_
 refine WL.move .r rfl rfl rfl rfl ?_
 refine WL.nilCheck .r rfl rfl rfl rfl ?_
 refine WL.fieldAddr .r rfl rfl rfl Try.underlying42 rfl info28 rfl rfl ?_
 obtain ⟨c29, ecs30, hrow31, hwin32, hb33⟩ := OD.get h4 hp28 hx25
 obtain ⟨a34, cap35, a36, cap37, a38, cap39, a40, cap41, rfl⟩ := GPeer.ofB hb33
 obtain ⟨S42, hs43, hs44, hs45, h46, h47⟩ := GPeer.open_Log h4 hp28 hx25 hrow31 hwin32 (List.forall_mem_nil _)
 refine WL.load1 .r rfl rfl rfl Try.underlying28 rfl rfl hrow31 ((win_get (m := 5) hwin32 (show (5 : Nat) < 9 by decide)).trans rfl) ?_
 refine WL.move .r rfl rfl rfl rfl ?_
 refine WL.nilCheck .r rfl rfl rfl rfl ?_
 refine WL.fieldAddr .r rfl rfl rfl Try.underlying42 rfl info3 rfl rfl ?_
 refine WL.load1 .r rfl rfl rfl Try.underlying3 rfl rfl hrow31 ((win_get (m := 3) hwin32 (show (3 : Nat) < 9 by decide)).trans rfl) ?_
 obtain ⟨xs49, hxs49, hr⟩ := bnd_some hr
 refine GL.sliceO .r rfl rfl rfl Try.underlying28 info35 rfl rfl h46 rfl ⟨_, rfl⟩ hxs49 (fun a50 cap51 hid52 h53 => ?_)
 refine WL.len .r rfl rfl rfl Try.underlying28 rfl ?_
 refine WL.move .r rfl rfl rfl rfl ?_
 refine WL.nil ?_
 refine Ex.thn_norm ?_
 with_reducible refine W.block ?_
 refine W.loopF (fun k0 fr n H => ∃ (x723 : Int) (S726 : Nat → Prop) (a728 : Option Addr) (cap729 : Nat) (xs730 : (List GRec)) (x733 : Bool) (F : Heap), fr = [(0, .pointer (some ⟨p0, 0, none⟩)), (21, .slice a50 xs49.length cap51), (22, .int .i64 (xs49.length : Int)), (23, .int .i64 x723)] ∧ St lo n H F ∧ Ext n0 F0 n F ∧ H p0 = some (.row ez0 [.slice a2 x1.Peers.length cap3, .slice a7 x1.Net.length cap8, .slice a728 xs730.length cap729, .bool x733]) ∧ F p0 = none ∧ OW lo n H F (.slice a50 xs49.length cap51) xs49 ∧ OW lo n H F (.slice a34 x25.Log.length cap35) x25.Log ∧ OD lo n H F S726 [((x18).toNat, 5, .slice a34 x25.Log.length cap35)] (.slice a2 x1.Peers.length cap3) x1.Peers ∧ OW lo n H F (.slice a7 x1.Net.length cap8) x1.Net ∧ OW lo n H F (.slice a728 xs730.length cap729) xs730 ∧ idOf (.slice a50 xs49.length cap51) ≠ some p0 ∧ idOf (.slice a34 x25.Log.length cap35) ≠ some p0 ∧ ¬ S726 p0 ∧ (∀ b, S726 b → idOf (.slice a50 xs49.length cap51) ≠ some b) ∧ (∀ b, S726 b → idOf (.slice a34 x25.Log.length cap35) ≠ some b) ∧ idOf (.slice a7 x1.Net.length cap8) ≠ some p0 ∧ (∀ b, idOf (.slice a7 x1.Net.length cap8) = some b → idOf (.slice a50 xs49.length cap51) ≠ some b) ∧ (∀ b, idOf (.slice a7 x1.Net.length cap8) = some b → idOf (.slice a34 x25.Log.length cap35) ≠ some b) ∧ (∀ b, idOf (.slice a7 x1.Net.length cap8) = some b → ¬ S726 b) ∧ idOf (.slice a728 xs730.length cap729) ≠ some p0 ∧ (∀ b, idOf (.slice a728 xs730.length cap729) = some b → idOf (.slice a50 xs49.length cap51) ≠ some b) ∧ (∀ b, idOf (.slice a728 xs730.length cap729) = some b → idOf (.slice a34 x25.Log.length cap35) ≠ some b) ∧ (∀ b, idOf (.slice a728 xs730.length cap729) = some b → ¬ S726 b) ∧ (∀ b, idOf (.slice a728 xs730.length cap729) = some b → idOf (.slice a7 x1.Net.length cap8) ≠ some b) ∧ f_impl_Cluster_choose_L0 xs49 x1 k0 x723 xs730 x733 = some res) BIG (fr0 := [(0, .pointer (some ⟨p0, 0, none⟩)), (21, .slice a50 xs49.length cap51), (22, .int .i64 (xs49.length : Int)), (23, .int .i64 0)]) (Fr.le_cons rfl (Fr.le_cons rfl (Fr.le_cons rfl (Fr.le_cons rfl Fr.le_nil)))) ?_ ?_ ?_
 {
 exact ⟨0, S42, a11, cap12, x1.Chosen, x1.Conflict, F0, rfl, hS0, hE0, ho15, fo16, h53, h46, h47, h9, h13, (Ap.sub0 hid52 (Ap.sub0 hs44 ap19)), (Ap.sub0 hs44 ap19), (Ap.sub0 hs43 ap19), (Ap.sym (Ap.sub hid52 hs45)), (Ap.sym hs45), ap20, (Ap.sym (Ap.sub hid52 (Ap.sub hs44 (Ap.sym ap21)))), (Ap.sym (Ap.sub hs44 (Ap.sym ap21))), (Ap.sym (Ap.sub hs43 (Ap.sym ap21))), ap22, (Ap.sym (Ap.sub hid52 (Ap.sub hs44 (Ap.sym ap23)))), (Ap.sym (Ap.sub hs44 (Ap.sym ap23))), (Ap.sym (Ap.sub hs43 (Ap.sym ap23))), ap24, hr⟩
 }
 {
 intro fr n H hI
 obtain ⟨x723, S726, a728, cap729, xs730, x733, F719, hfr, hS720, hE721, ho734, fo735, h722, h724, h725, h727, h731, ap736, ap737, ap738, ap739, ap740, ap741, ap742, ap743, ap744, ap745, ap746, ap747, ap748, ap749, hr⟩ := hI
 rw [f_impl_Cluster_choose_L0] at hr
 cases hr
 }
 {
 intro k0 _ n717 H718 hI
 obtain ⟨x723, S726, a728, cap729, xs730, x733, F719, rfl, hS720, hE721, ho734, fo735, h722, h724, h725, h727, h731, ap736, ap737, ap738, ap739, ap740, ap741, ap742, ap743, ap744, ap745, ap746, ap747, ap748, ap749, hr⟩ := hI
 have lt750 := hS720.lt ho734
 have hlen717 := hE721.le
 have hlon717 := hS720.lo
 rw [f_impl_Cluster_choose_L0] at hr
 with_reducible refine W.seq ?_
 with_reducible refine W.region ?_
 refine WL.bin .nil rfl rfl rfl rfl rfl rfl ?_
 refine WL.nil ?_
 refine Ex.thn_norm ?_
 with_reducible refine W.seq ?_
 refine W.condD rfl (fun hc752 => ?_) (fun hc752 => ?_)
 {
 replace hr := ite_pos hr hc752
 with_reducible refine W.skip ?_
 refine Ex.thn_norm ?_
 with_reducible refine W.seq ?_
 refine W.cut (fun fr n H => ∃ (S893 : Nat → Prop) (a895 : Option Addr) (cap896 : Nat) (xs897 : (List GRec)) (x900 : Bool) (F : Heap), fr = [(0, .pointer (some ⟨p0, 0, none⟩)), (21, .slice a50 xs49.length cap51), (22, .int .i64 (xs49.length : Int)), (23, .int .i64 x723)] ∧ St lo n H F ∧ Ext n0 F0 n F ∧ H p0 = some (.row ez0 [.slice a2 x1.Peers.length cap3, .slice a7 x1.Net.length cap8, .slice a895 xs897.length cap896, .bool x900]) ∧ F p0 = none ∧ OW lo n H F (.slice a50 xs49.length cap51) xs49 ∧ OW lo n H F (.slice a34 x25.Log.length cap35) x25.Log ∧ OD lo n H F S893 [((x18).toNat, 5, .slice a34 x25.Log.length cap35)] (.slice a2 x1.Peers.length cap3) x1.Peers ∧ OW lo n H F (.slice a7 x1.Net.length cap8) x1.Net ∧ OW lo n H F (.slice a895 xs897.length cap896) xs897 ∧ idOf (.slice a50 xs49.length cap51) ≠ some p0 ∧ idOf (.slice a34 x25.Log.length cap35) ≠ some p0 ∧ ¬ S893 p0 ∧ (∀ b, S893 b → idOf (.slice a50 xs49.length cap51) ≠ some b) ∧ (∀ b, S893 b → idOf (.slice a34 x25.Log.length cap35) ≠ some b) ∧ idOf (.slice a7 x1.Net.length cap8) ≠ some p0 ∧ (∀ b, idOf (.slice a7 x1.Net.length cap8) = some b → idOf (.slice a50 xs49.length cap51) ≠ some b) ∧ (∀ b, idOf (.slice a7 x1.Net.length cap8) = some b → idOf (.slice a34 x25.Log.length cap35) ≠ some b) ∧ (∀ b, idOf (.slice a7 x1.Net.length cap8) = some b → ¬ S893 b) ∧ idOf (.slice a895 xs897.length cap896) ≠ some p0 ∧ (∀ b, idOf (.slice a895 xs897.length cap896) = some b → idOf (.slice a50 xs49.length cap51) ≠ some b) ∧ (∀ b, idOf (.slice a895 xs897.length cap896) = some b → idOf (.slice a34 x25.Log.length cap35) ≠ some b) ∧ (∀ b, idOf (.slice a895 xs897.length cap896) = some b → ¬ S893 b) ∧ (∀ b, idOf (.slice a895 xs897.length cap896) = some b → idOf (.slice a7 x1.Net.length cap8) ≠ some b) ∧ f_impl_Cluster_choose_J1 x723 (f_impl_Cluster_choose_L0 xs49 x1 k0) xs897 x900 = some res) ?_ ?_
 {
 with_reducible refine W.block ?_
 with_reducible refine W.seq ?_
 with_reducible refine W.region ?_
 refine WL.move .nil rfl rfl rfl rfl ?_
 obtain ⟨x919, hx919, hr⟩ := bnd_some hr
 refine GL.indexO .nil rfl rfl rfl Try.underlying28 info35 rfl rfl h722 rfl hx919 (fun b920 kp921 c922 ecs923 hid927 hrow924 hwin925 hR926 hup928 => ?_)
 obtain ⟨a929, cap930, rfl, h931⟩ := GRec.ofR hR926
 refine WL.loadN .nil (l' := [.int .i64 x919.Term, .int .i64 x919.Index, .slice a929 x919.Data.length cap930]) rfl rfl rfl Try.underlying35 rfl info35 rfl hrow924 hwin925 rfl ?_
 refine GL.alloc hS720 .nil (zc := [.int .i64 0, .int .i64 0, .slice none 0 0]) rfl rfl rfl info35 rfl rfl rfl (fun H932 hS933 ho934 hk935 => ?_)
 have fo936 := hS720.fnone (Nat.le_refl _)
 have ho938 := (hk935 _ (by have := lt750; omega)).trans ho734
 have h939 := OW.keep (n' := (n717 + 1)) h722 (by omega) (fun i hi => hk935 i (OW.id_lt h722 hi).2)
 have h940 := OW.keep (n' := (n717 + 1)) h724 (by omega) (fun i hi => hk935 i (OW.id_lt h724 hi).2)
 have h941 := OD.keep (n' := (n717 + 1)) h725 (by omega) (fun i hi => hk935 i (OD.id_lt h725 hi).2)
 have h942 := OW.keep (n' := (n717 + 1)) h727 (by omega) (fun i hi => hk935 i (OW.id_lt h727 hi).2)
 have h943 := OW.keep (n' := (n717 + 1)) h731 (by omega) (fun i hi => hk935 i (OW.id_lt h731 hi).2)
 have hlon7171 := hS933.lo
 have lt937 : n717 < (n717 + 1) := by omega
 refine WL.assign .nil rfl rfl rfl rfl ?_
 refine GL.store hS933 .nil (vc := [.int .i64 x919.Term, .int .i64 x919.Index, .slice a929 x919.Data.length cap930]) (c' := [.int .i64 x919.Term, .int .i64 x919.Index, .slice a929 x919.Data.length cap930]) rfl rfl rfl info35 rfl rfl rfl rfl ho934 fo936 (Nat.le_of_ble_eq_true rfl) (by omega) (by repeat' (first | exact List.forall_mem_nil _ | refine List.forall_mem_cons.2 ⟨?_, ?_⟩ | rfl)) rfl (fun H944 hS945 ho946 hk947 => ?_)
 have ho948 := (hk947 _ (by omega)).trans ho938
 have h949 := OW.keep h939 (Nat.le_refl _) (fun i hi => hk947 i (fun hj => (Ap.alloc (OW.hb h722)) (hj ▸ hi)))
 have h950 := OW.keep h940 (Nat.le_refl _) (fun i hi => hk947 i (fun hj => (Ap.alloc (OW.hb h724)) (hj ▸ hi)))
 have h951 := OD.keep h941 (Nat.le_refl _) (fun i hi => hk947 i (fun hj => (Ap.alloc (OD.hb h725)) (hj ▸ hi)))
 have h952 := OW.keep h942 (Nat.le_refl _) (fun i hi => hk947 i (fun hj => (Ap.alloc (OW.hb h727)) (hj ▸ hi)))
 have h953 := OW.keep h943 (Nat.le_refl _) (fun i hi => hk947 i (fun hj => (Ap.alloc (OW.hb h731)) (hj ▸ hi)))
 refine WL.nil ?_
 refine Ex.thn_norm ?_
 with_reducible refine W.block ?_
 with_reducible refine W.seq ?_
 with_reducible refine W.region ?_
 refine WL.move .nil rfl rfl rfl rfl ?_
 refine WL.move .nil rfl rfl rfl rfl ?_
 refine WL.nilCheck .nil rfl rfl rfl rfl ?_
 refine WL.fieldAddr .nil rfl rfl rfl Try.underlying30 rfl info28 rfl rfl ?_
 refine WL.load1 .nil rfl rfl rfl Try.underlying28 rfl rfl ho948 rfl ?_
 refine WL.len .nil rfl rfl rfl Try.underlying28 rfl ?_
 refine WL.bin .nil rfl rfl rfl rfl rfl rfl ?_
 refine WL.assign .nil rfl rfl rfl rfl ?_
 refine WL.nil ?_
 refine Ex.thn_norm ?_
 refine W.condD rfl (fun hc954 => ?_) (fun hc954 => ?_)
 {
 replace hr := ite_pos hr hc954
 refine W.regionI (fun H => True) [0, 1, 2, 3, 4, 5, 6, 7, 8, 9, 10] [(false, true, false), (false, false, false), (false, false, false), (false, false, false), (false, false, false), (false, false, false), (false, false, false), (true, false, false), (false, false, false), (false, false, false), (true, false, true)] false rfl (by kernel_rfl) (by kernel_rfl) (by (conv => lhs; simp only [List.map_cons, List.map_nil, List.getD_cons_zero, List.getD_cons_succ]) <;> rfl) ?_
 refine WLI.late (v := .pointer (some ⟨p0, 0, none⟩)) (fun h => by cases h) rfl rfl (fun H2 hI2 => .move (.inl rfl) rfl) ?_
 refine WLI.op (fun h => by cases h) ?_
 refine WL.move .r rfl rfl rfl rfl ?_
 with_reducible refine WL.nil ⟨rfl, ?_⟩
 refine WLI.op (fun h => by cases h) ?_
 refine WL.nilCheck .r rfl rfl rfl rfl ?_
 with_reducible refine WL.nil ⟨rfl, ?_⟩
 refine WLI.op (fun h => by cases h) ?_
 refine WL.fieldAddr .r rfl rfl rfl Try.underlying30 rfl info28 rfl rfl ?_
 with_reducible refine WL.nil ⟨rfl, ?_⟩
 refine WLI.op (fun h => by cases h) ?_
 refine WL.load1 .r rfl rfl rfl Try.underlying28 rfl rfl ho948 rfl ?_
 with_reducible refine WL.nil ⟨rfl, ?_⟩
 refine WLI.op (fun h => by cases h) ?_
 refine WL.loadN .r (l' := [.int .i64 x919.Term, .int .i64 x919.Index, .slice a929 x919.Data.length cap930]) rfl rfl rfl Try.underlying35 rfl info35 rfl ho946 rfl rfl ?_
 with_reducible refine WL.nil ⟨rfl, ?_⟩
 refine WLI.op (fun h => by cases h) ?_
 refine GL.lit (cs := [.int .i64 x919.Term, .int .i64 x919.Index, .slice a929 x919.Data.length cap930]) (xs := ([({ Term := x919.Term, Index := x919.Index, Data := x919.Data } : GRec)] : List GRec)) hS945 .r rfl rfl rfl Try.underlying28 info35 rfl rfl rfl (by decide) (by decide) rfl rfl rfl rfl rfl (RA.cons (cs := [.int .i64 x919.Term, .int .i64 x919.Index, .slice a929 x919.Data.length cap930]) (a := (({ Term := x919.Term, Index := x919.Index, Data := x919.Data } : GRec) : GRec)) (GRec.toR (x := ({ Term := x919.Term, Index := x919.Index, Data := x919.Data } : GRec)) h931) RA.nil) rfl (fun H956 hS957 hO958 hk959 => ?_)
 have ho960 := (hk959 _ (by have := lt750; omega)).trans ho948
 have ho961 := (hk959 _ (by have := lt937; omega)).trans ho946
 have h962 := OW.keep (n' := ((n717 + 1) + 1)) h949 (by omega) (fun i hi => hk959 i (OW.id_lt h949 hi).2)
 have h963 := OW.keep (n' := ((n717 + 1) + 1)) h950 (by omega) (fun i hi => hk959 i (OW.id_lt h950 hi).2)
 have h964 := OD.keep (n' := ((n717 + 1) + 1)) h951 (by omega) (fun i hi => hk959 i (OD.id_lt h951 hi).2)
 have h965 := OW.keep (n' := ((n717 + 1) + 1)) h952 (by omega) (fun i hi => hk959 i (OW.id_lt h952 hi).2)
 have h966 := OW.keep (n' := ((n717 + 1) + 1)) h953 (by omega) (fun i hi => hk959 i (OW.id_lt h953 hi).2)
 have h967 := OW.lower (lo' := n0) hO958 (by omega)
 have hlon71711 := hS957.lo
 with_reducible refine WL.nil ⟨rfl, ?_⟩
 refine WLI.op (fun h => by cases h) ?_
 obtain ⟨hc976, hr⟩ := chk_some hr
 refine GL.append (α := GRec) hS957 .w rfl rfl rfl Try.underlying28 Try.underlying28 rfl info35 rfl rfl rfl (by decide) rfl rfl h966 (by omega) (by omega) (OW.src h967) hc976 (fun a977 cap978 n979 H980 hS981 hn982 hO983 hk984 hid985 => ?_)
 have ho986 := (hk984 _ (by have := lt750; omega) ap745).trans ho960
 have ho987 := (hk984 _ (by have := lt937; omega) (Ap.alloc (OW.hb h731))).trans ho961
 have h988 := OW.keep h962 hn982 (fun i hi => hk984 i (OW.id_lt h962 hi).2 (fun hj => ap746 _ hj hi))
 have h989 := OW.keep h963 hn982 (fun i hi => hk984 i (OW.id_lt h963 hi).2 (fun hj => ap747 _ hj hi))
 have h990 := OD.keep h964 hn982 (fun i hi => hk984 i (OD.id_lt h964 hi).2 (fun hj => ap748 _ hj hi))
 have h991 := OW.keep h965 hn982 (fun i hi => hk984 i (OW.id_lt h965 hi).2 (fun hj => ap749 _ hj hi))
 have h992 := OW.keep h967 hn982 (fun i hi => hk984 i (OW.id_lt h967 hi).2 (fun hj => (Ap.sym (Ap.fresh (OW.lb hO958) (OW.hb h953))) _ hj hi))
 have hlon979 := hS981.lo
 with_reducible refine WL.nil ⟨rfl, ?_⟩
 refine WLI.op (fun h => by cases h) ?_
 refine WL.nilCheck .r rfl rfl rfl rfl ?_
 with_reducible refine WL.nil ⟨rfl, ?_⟩
 refine WLI.op (fun h => by cases h) ?_
 refine WL.fieldAddr .r rfl rfl rfl Try.underlying30 rfl info28 rfl rfl ?_
 with_reducible refine WL.nil ⟨rfl, ?_⟩
 refine WLI.op (fun _ => trivial) ?_
 refine GL.store hS981 .w (vc := [.slice a977 (xs730 ++ ([({ Term := x919.Term, Index := x919.Index, Data := x919.Data } : GRec)] : List GRec)).length cap978]) (c' := [.slice a2 x1.Peers.length cap3, .slice a7 x1.Net.length cap8, .slice a977 (xs730 ++ ([({ Term := x919.Term, Index := x919.Index, Data := x919.Data } : GRec)] : List GRec)).length cap978, .bool x733]) rfl rfl rfl info28 rfl rfl rfl rfl ho986 fo735 (Nat.le_of_ble_eq_true rfl) lo17 (one1 rfl) rfl (fun H1001 hS1002 ho1003 hk1004 => ?_)
 have ho1005 := (hk1004 _ (by omega)).trans ho987
 have h1006 := OW.keep h988 (Nat.le_refl _) (fun i hi => hk1004 i (fun hj => ap736 (hj ▸ hi)))
 have h1007 := OW.keep h989 (Nat.le_refl _) (fun i hi => hk1004 i (fun hj => ap737 (hj ▸ hi)))
 have h1008 := OD.keep h990 (Nat.le_refl _) (fun i hi => hk1004 i (fun hj => ap738 (hj ▸ hi)))
 have h1009 := OW.keep h991 (Nat.le_refl _) (fun i hi => hk1004 i (fun hj => ap741 (hj ▸ hi)))
 have h1010 := OW.keep h992 (Nat.le_refl _) (fun i hi => hk1004 i (fun hj => (Ap.fresh0 (OW.lb hO958) (by have := lt750; omega)) (hj ▸ hi)))
 have h1011 := OW.keep hO983 (Nat.le_refl _) (fun i hi => hk1004 i (fun hj => (Ap.new0 hid985 (by have := lt750; omega) ap745) (hj ▸ hi)))
 with_reducible refine WL.nil ⟨rfl, ?_⟩
 refine WLI.nil (fun h => by cases h) ?_
 with_reducible refine Ex.blk_norm ?_
 with_reducible refine Ex.blk_norm ?_
 refine Ex.thn_norm ?_
 exact ⟨[(0, .pointer (some ⟨p0, 0, none⟩)), (21, .slice a50 xs49.length cap51), (22, .int .i64 (xs49.length : Int)), (23, .int .i64 x723)], (Fr.le_cons rfl (Fr.le_cons rfl (Fr.le_cons rfl (Fr.le_cons rfl Fr.le_nil)))), S726, a977, cap978, (xs730 ++ ([({ Term := x919.Term, Index := x919.Index, Data := x919.Data } : GRec)] : List GRec)), x733, F719, rfl, hS1002, (hE721.up (by omega)), ho1003, fo735, h1006, h1007, h1008, h1009, h1011, ap736, ap737, ap738, ap739, ap740, ap741, ap742, ap743, ap744, (Ap.new0 hid985 (by have := lt750; omega) ap745), (Ap.new hid985 (OW.hb h962) ap746), (Ap.new hid985 (OW.hb h963) ap747), (Ap.new hid985 (OD.hb h964) ap748), (Ap.new hid985 (OW.hb h965) ap749), hr⟩
 }
 {
 replace hr := ite_neg hr hc954
 with_reducible refine W.seq ?_
 refine W.regionD [0, 1, 2, 3, 4, 5, 6, 7, 8, 9, 10] [false, false, false, false, false, false, false, false, false, false, false] rfl rfl (by kernel_rfl) (by kernel_rfl) (by (conv => lhs; simp only [List.map_cons, List.map_nil, List.getD_cons_zero, List.getD_cons_succ]) <;> rfl) ?_
 refine WL.loadN .r (l' := [.int .i64 x919.Term, .int .i64 x919.Index, .slice a929 x919.Data.length cap930]) rfl rfl rfl Try.underlying35 rfl info35 rfl ho946 rfl rfl ?_
 refine WL.move .r rfl rfl rfl rfl ?_
 refine WL.nilCheck .r rfl rfl rfl rfl ?_
 refine WL.fieldAddr .r rfl rfl rfl Try.underlying30 rfl info28 rfl rfl ?_
 refine WL.load1 .r rfl rfl rfl Try.underlying28 rfl rfl ho948 rfl ?_
 refine WL.move .r rfl rfl rfl rfl ?_
 obtain ⟨x1012, hx1012, hr⟩ := bnd_some hr
 refine GL.indexO .r rfl rfl rfl Try.underlying28 info35 rfl rfl h953 rfl hx1012 (fun b1013 kp1014 c1015 ecs1016 hid1020 hrow1017 hwin1018 hR1019 hup1021 => ?_)
 obtain ⟨a1022, cap1023, rfl, h1024⟩ := GRec.ofR hR1019
 refine WL.loadN .r (l' := [.int .i64 x1012.Term, .int .i64 x1012.Index, .slice a1022 x1012.Data.length cap1023]) rfl rfl rfl Try.underlying35 rfl info35 rfl hrow1017 hwin1018 rfl ?_
 obtain ⟨x1025, hx1025, hr⟩ := bnd_some hr
 refine GL.callP g.good .r rfl rfl rfl rfl rfl rfl Try.func41 rfl rfl (Nat.le_refl _) (f_impl_sameRec_k (x1 := ({ Term := x919.Term, Index := x919.Index, Data := x919.Data } : GRec)) (x5 := ({ Term := x1012.Term, Index := x1012.Index, Data := x1012.Data } : GRec)) g hS945 h931 h1024 hx1025) (fun v n1026 H1027 hn1028 hk1029 hp1030 => ?_)
 obtain ⟨hS1031, rfl⟩ := hp1030
 have ho1032 := (hk1029 _ (by have := lt750; omega)).trans ho948
 have ho1033 := (hk1029 _ (by have := lt937; omega)).trans ho946
 have h1034 := OW.keep (n' := n1026) h949 (by omega) (fun i hi => hk1029 i (OW.id_lt h949 hi).2)
 have h1035 := OW.keep (n' := n1026) h950 (by omega) (fun i hi => hk1029 i (OW.id_lt h950 hi).2)
 have h1036 := OD.keep (n' := n1026) h951 (by omega) (fun i hi => hk1029 i (OD.id_lt h951 hi).2)
 have h1037 := OW.keep (n' := n1026) h952 (by omega) (fun i hi => hk1029 i (OW.id_lt h952 hi).2)
 have h1038 := OW.keep (n' := n1026) h953 (by omega) (fun i hi => hk1029 i (OW.id_lt h953 hi).2)
 have hS1039 : St lo n1026 H1027 F719 := ⟨by have := hS945.lo; omega, hS1031.hb, hS1031.fh⟩
 have hlon1026 := hS1039.lo
 refine WL.not .r rfl rfl rfl rfl ?_
 refine WL.assign .r rfl rfl rfl rfl ?_
 refine WL.nil ?_
 refine Ex.thn_norm ?_
 refine W.cond rfl (fun hc1040 => ?_) (fun hc1040 => ?_)
 {
 replace hr := iteB_pos hr hc1040
 with_reducible refine W.region ?_
 refine WL.move .nil rfl rfl rfl rfl ?_
 refine WL.nilCheck .nil rfl rfl rfl rfl ?_
 refine WL.fieldAddr .nil rfl rfl rfl Try.underlying30 rfl info4 rfl rfl ?_
 refine GL.store hS1039 .nil (vc := [.bool true]) (c' := [.slice a2 x1.Peers.length cap3, .slice a7 x1.Net.length cap8, .slice a728 xs730.length cap729, .bool true]) rfl rfl rfl info4 rfl rfl rfl rfl ho1032 fo735 (Nat.le_of_ble_eq_true rfl) lo17 (one1 rfl) rfl (fun H1041 hS1042 ho1043 hk1044 => ?_)
 have ho1045 := (hk1044 _ (by omega)).trans ho1033
 have h1046 := OW.keep h1034 (Nat.le_refl _) (fun i hi => hk1044 i (fun hj => ap736 (hj ▸ hi)))
 have h1047 := OW.keep h1035 (Nat.le_refl _) (fun i hi => hk1044 i (fun hj => ap737 (hj ▸ hi)))
 have h1048 := OD.keep h1036 (Nat.le_refl _) (fun i hi => hk1044 i (fun hj => ap738 (hj ▸ hi)))
 have h1049 := OW.keep h1037 (Nat.le_refl _) (fun i hi => hk1044 i (fun hj => ap741 (hj ▸ hi)))
 have h1050 := OW.keep h1038 (Nat.le_refl _) (fun i hi => hk1044 i (fun hj => ap745 (hj ▸ hi)))
 refine WL.nil ?_
 with_reducible refine Ex.blk_norm ?_
 with_reducible refine Ex.blk_norm ?_
 refine Ex.thn_norm ?_
 exact ⟨[(0, .pointer (some ⟨p0, 0, none⟩)), (21, .slice a50 xs49.length cap51), (22, .int .i64 (xs49.length : Int)), (23, .int .i64 x723)], (Fr.le_cons rfl (Fr.le_cons rfl (Fr.le_cons rfl (Fr.le_cons rfl Fr.le_nil)))), S726, a728, cap729, xs730, true, F719, rfl, hS1042, (hE721.up (by omega)), ho1043, fo735, h1046, h1047, h1048, h1049, h1050, ap736, ap737, ap738, ap739, ap740, ap741, ap742, ap743, ap744, ap745, ap746, ap747, ap748, ap749, hr⟩
 }
 {
 replace hr := iteB_neg hr hc1040
 with_reducible refine W.skip ?_
 with_reducible refine Ex.blk_norm ?_
 with_reducible refine Ex.blk_norm ?_
 refine Ex.thn_norm ?_
 exact ⟨[(0, .pointer (some ⟨p0, 0, none⟩)), (21, .slice a50 xs49.length cap51), (22, .int .i64 (xs49.length : Int)), (23, .int .i64 x723)], (Fr.le_cons rfl (Fr.le_cons rfl (Fr.le_cons rfl (Fr.le_cons rfl Fr.le_nil)))), S726, a728, cap729, xs730, x733, F719, rfl, hS1039, (hE721.up (by omega)), ho1032, fo735, h1034, h1035, h1036, h1037, h1038, ap736, ap737, ap738, ap739, ap740, ap741, ap742, ap743, ap744, ap745, ap746, ap747, ap748, ap749, hr⟩
 }
 }
 }
 {
 intro _ n885 H886 hI
 obtain ⟨S893, a895, cap896, xs897, x900, F887, rfl, hS888, hE889, ho901, fo902, h890, h891, h892, h894, h898, ap903, ap904, ap905, ap906, ap907, ap908, ap909, ap910, ap911, ap912, ap913, ap914, ap915, ap916, hr⟩ := hI
 have lt917 := hS888.lt ho901
 have hlen885 := hE889.le
 have hlon885 := hS888.lo
 unfold f_impl_Cluster_choose_J1 at hr
 with_reducible refine W.region ?_
 obtain ⟨hc918, hr⟩ := chk_some hr
 refine WL.addI .nil rfl rfl rfl rfl rfl hc918.1 hc918.2 ?_
 refine WL.move .nil rfl rfl rfl rfl ?_
 refine WL.nil ?_
 refine Ex.thn_norm ?_
 exact ⟨[(0, .pointer (some ⟨p0, 0, none⟩)), (21, .slice a50 xs49.length cap51), (22, .int .i64 (xs49.length : Int)), (23, .int .i64 (x723 + 1))], (Fr.le_cons rfl (Fr.le_cons rfl (Fr.le_cons rfl (Fr.le_cons rfl Fr.le_nil)))), (x723 + 1), S893, a895, cap896, xs897, x900, F887, rfl, hS888, hE889, ho901, fo902, h890, h891, h892, h894, h898, ap903, ap904, ap905, ap906, ap907, ap908, ap909, ap910, ap911, ap912, ap913, ap914, ap915, ap916, hr⟩
 }
 }
 {
 replace hr := ite_neg hr hc752
 with_reducible refine W.exit ?_
 with_reducible refine Ex.thn_ex ?_
 with_reducible refine Ex.thn_ex ?_
 with_reducible refine Ex.blk_here ?_
 obtain ⟨S1051, hs1052, h1053⟩ := GPeer.close0_Log h725 hx25 h724
 obtain rfl := Option.some.inj hr
 exact ⟨.inl rfl, _, .nil, ⟨F719, S1051, a7, cap8, a728, cap729, (hE721.up (by omega)), hS720, ho734, rfl, h1053, rfl, h727, h731, (Ap.or0 hs1052 ap738 ap737), ap741, ap745, (Ap.sym (Ap.or hs1052 (Ap.sym ap744) (Ap.sym ap743))), (Ap.sym (Ap.or hs1052 (Ap.sym ap748) (Ap.sym ap747))), ap749⟩⟩
 }
 }
theorem f_impl_Cluster_commit_k {Δ : Prims} (g : Env Try.prog Δ) {lo n0 : Nat} {H0 F0 : Heap} (hS : St lo n0 H0 F0) {p0 : Nat} {x1 : GCluster} {ez0 : Nat} {a2 : Option Addr} {cap3 : Nat} {S6 : Nat → Prop} {a7 : Option Addr} {cap8 : Nat} {a11 : Option Addr} {cap12 : Nat} {x18 : Int} (ho15 : H0 p0 = some (.row ez0 [.slice a2 x1.Peers.length cap3, .slice a7 x1.Net.length cap8, .slice a11 x1.Chosen.length cap12, .bool x1.Conflict])) (fo16 : F0 p0 = none) (lo17 : lo ≤ p0) (h4 : OD lo n0 H0 F0 S6 [] (.slice a2 x1.Peers.length cap3) x1.Peers) (h9 : OW lo n0 H0 F0 (.slice a7 x1.Net.length cap8) x1.Net) (h13 : OW lo n0 H0 F0 (.slice a11 x1.Chosen.length cap12) x1.Chosen) (ap19 : ¬ S6 p0) (ap20 : idOf (.slice a7 x1.Net.length cap8) ≠ some p0) (ap21 : ∀ b, idOf (.slice a7 x1.Net.length cap8) = some b → ¬ S6 b) (ap22 : idOf (.slice a11 x1.Chosen.length cap12) ≠ some p0) (ap23 : ∀ b, idOf (.slice a11 x1.Chosen.length cap12) = some b → ¬ S6 b) (ap24 : ∀ b, idOf (.slice a11 x1.Chosen.length cap12) = some b → idOf (.slice a7 x1.Net.length cap8) ≠ some b) {res : (GCluster)} (hr : f_impl_Cluster_commit x1 x18 = some res) :
    C Try.prog Δ lo 60 [.pointer (some ⟨p0, 0, none⟩), .int .i64 x18] n0 H0 (fun v n H => ∃ (F : Heap) (rS2 : Nat → Prop) (ra4 : Option Addr) (rcap5 : Nat) (ra7 : Option Addr) (rcap8 : Nat), Ext n0 F0 n F ∧ St lo n H F ∧ H p0 = some (.row ez0 [.slice a2 x1.Peers.length cap3, .slice ra4 res.Net.length rcap5, .slice ra7 res.Chosen.length rcap8, .bool res.Conflict]) ∧ v = .tuple #[] ∧ OD lo n H F rS2 [] (.slice a2 x1.Peers.length cap3) res.Peers ∧ x1.Peers.length = res.Peers.length ∧ OW lo n H F (.slice ra4 res.Net.length rcap5) res.Net ∧ OW lo n H F (.slice ra7 res.Chosen.length rcap8) res.Chosen ∧ ¬ rS2 p0 ∧ idOf (.slice ra4 res.Net.length rcap5) ≠ some p0 ∧ idOf (.slice ra7 res.Chosen.length rcap8) ≠ some p0 ∧ (∀ b, idOf (.slice ra4 res.Net.length rcap5) = some b → ¬ rS2 b) ∧ (∀ b, idOf (.slice ra7 res.Chosen.length rcap8) = some b → ¬ rS2 b) ∧ (∀ b, idOf (.slice ra7 res.Chosen.length rcap8) = some b → idOf (.slice ra4 res.Net.length rcap5) ≠ some b)) := by
 refine C.body Try.func60 rfl rfl ?_
 unfold f_impl_Cluster_commit at hr
 have hS0 : St lo n0 H0 F0 := hS
 have hE0 := Ext.refl n0 F0
 have hlo0 := hS0.lo
 have lt0 := hS0.lt ho15
 with_reducible refine W.seq ?_
 with_reducible refine W.region ?_
 refine WL.move .nil rfl rfl rfl rfl ?_
 refine WL.nilCheck .nil rfl rfl rfl rfl ?_
 refine WL.fieldAddr .nil rfl rfl rfl Try.underlying30 rfl info26 rfl rfl ?_
 refine WL.load1 .nil rfl rfl rfl Try.underlying26 rfl rfl ho15 rfl ?_
 refine WL.move .nil rfl rfl rfl rfl ?_
 obtain ⟨x25, hx25, hr⟩ := bnd_some hr
 refine GL.indexD .nil rfl rfl rfl Try.underlying26 info42 rfl rfl h4 rfl hx25 (fun b26 el27 hp28 => ?_)
 refine WL.assign .nil rfl rfl rfl rfl ?_
 refine WL.nil ?_
 refine Ex.thn_norm ?_
 with_reducible refine W.seq ?_
 with_reducible refine W.seq ?_
 with_reducible refine W.region ?_
 refine WL.move .nil rfl rfl rfl rfl ?_
 refine WL.nilCheck .nil rfl rfl rfl rfl ?_
 refine WL.fieldAddr .nil rfl rfl rfl Try.underlying42 rfl info28 rfl rfl ?_
 obtain ⟨c29, ecs30, hrow31, hwin32, hb33⟩ := OD.get h4 hp28 hx25
 obtain ⟨a34, cap35, a36, cap37, a38, cap39, a40, cap41, rfl⟩ := GPeer.ofB hb33
 obtain ⟨S42, hs43, hs44, hs45, h46, h47⟩ := GPeer.open_Log h4 hp28 hx25 hrow31 hwin32 (List.forall_mem_nil _)
 refine WL.load1 .nil rfl rfl rfl Try.underlying28 rfl rfl hrow31 ((win_get (m := 5) hwin32 (show (5 : Nat) < 9 by decide)).trans rfl) ?_
 refine WL.len .nil rfl rfl rfl Try.underlying28 rfl ?_
 refine WL.assign .nil rfl rfl rfl rfl ?_
 refine WL.nil ?_
 refine Ex.thn_norm ?_
 refine W.cut (fun fr n H => ∃ (xs4004 : (List GPeer)) (S4007 : Nat → Prop) (F : Heap), fr = [(0, .pointer (some ⟨p0, 0, none⟩)), (1, .int .i64 x18)] ∧ St lo n H F ∧ Ext n0 F0 n F ∧ H p0 = some (.row ez0 [.slice a2 x1.Peers.length cap3, .slice a7 x1.Net.length cap8, .slice a11 x1.Chosen.length cap12, .bool x1.Conflict]) ∧ F p0 = none ∧ OD lo n H F S4007 [] (.slice a2 x1.Peers.length cap3) xs4004 ∧ x1.Peers.length = xs4004.length ∧ OW lo n H F (.slice a7 x1.Net.length cap8) x1.Net ∧ OW lo n H F (.slice a11 x1.Chosen.length cap12) x1.Chosen ∧ ¬ S4007 p0 ∧ idOf (.slice a7 x1.Net.length cap8) ≠ some p0 ∧ (∀ b, idOf (.slice a7 x1.Net.length cap8) = some b → ¬ S4007 b) ∧ idOf (.slice a11 x1.Chosen.length cap12) ≠ some p0 ∧ (∀ b, idOf (.slice a11 x1.Chosen.length cap12) = some b → ¬ S4007 b) ∧ (∀ b, idOf (.slice a11 x1.Chosen.length cap12) = some b → idOf (.slice a7 x1.Net.length cap8) ≠ some b) ∧ f_impl_Cluster_commit_J0 x1 x18 xs4004 = some res) ?_ ?_
 {
 with_reducible refine W.block ?_
 obtain ⟨S8018, hs8019, h8020⟩ := GPeer.close0_Log h47 hx25 h46
 refine W.loopF (fun k1 fr n H => ∃ (x6701 : Int) (S6703 : Nat → Prop) (F : Heap), fr = [(0, .pointer (some ⟨p0, 0, none⟩)), (1, .int .i64 x18), (4, .pointer (some ⟨b26, el27, none⟩)), (5, .int .i64 x6701)] ∧ St lo n H F ∧ Ext n0 F0 n F ∧ H p0 = some (.row ez0 [.slice a2 x1.Peers.length cap3, .slice a7 x1.Net.length cap8, .slice a11 x1.Chosen.length cap12, .bool x1.Conflict]) ∧ F p0 = none ∧ OD lo n H F S6703 [] (.slice a2 x1.Peers.length cap3) x1.Peers ∧ OW lo n H F (.slice a7 x1.Net.length cap8) x1.Net ∧ OW lo n H F (.slice a11 x1.Chosen.length cap12) x1.Chosen ∧ ¬ S6703 p0 ∧ idOf (.slice a7 x1.Net.length cap8) ≠ some p0 ∧ (∀ b, idOf (.slice a7 x1.Net.length cap8) = some b → ¬ S6703 b) ∧ idOf (.slice a11 x1.Chosen.length cap12) ≠ some p0 ∧ (∀ b, idOf (.slice a11 x1.Chosen.length cap12) = some b → ¬ S6703 b) ∧ (∀ b, idOf (.slice a11 x1.Chosen.length cap12) = some b → idOf (.slice a7 x1.Net.length cap8) ≠ some b) ∧ f_impl_Cluster_commit_L1 x25 x1 x18 k1 x6701 = some res) BIG (fr0 := [(0, .pointer (some ⟨p0, 0, none⟩)), (1, .int .i64 x18), (4, .pointer (some ⟨b26, el27, none⟩)), (5, .int .i64 (x25.Log.length : Int))]) (Fr.le_cons rfl (Fr.le_cons rfl (Fr.le_cons rfl (Fr.le_cons rfl Fr.le_nil)))) ?_ ?_ ?_
 {
 exact ⟨(x25.Log.length : Int), S8018, F0, rfl, hS0, hE0, ho15, fo16, h8020, h9, h13, (Ap.or0 hs8019 (Ap.sub0 hs43 ap19) (Ap.sub0 hs44 ap19)), ap20, (Ap.sym (Ap.or hs8019 (Ap.sub hs43 (Ap.sym ap21)) (Ap.sub hs44 (Ap.sym ap21)))), ap22, (Ap.sym (Ap.or hs8019 (Ap.sub hs43 (Ap.sym ap23)) (Ap.sub hs44 (Ap.sym ap23)))), ap24, hr⟩
 }
 {
 intro fr n H hI
 obtain ⟨x6701, S6703, F6698, hfr, hS6699, hE6700, ho6706, fo6707, h6702, h6704, h6705, ap6708, ap6709, ap6710, ap6711, ap6712, ap6713, hr⟩ := hI
 rw [f_impl_Cluster_commit_L1] at hr
 cases hr
 }
 {
 intro k1 _ n6696 H6697 hI
 obtain ⟨x6701, S6703, F6698, rfl, hS6699, hE6700, ho6706, fo6707, h6702, h6704, h6705, ap6708, ap6709, ap6710, ap6711, ap6712, ap6713, hr⟩ := hI
 have lt6714 := hS6699.lt ho6706
 have hlen6696 := hE6700.le
 have hlon6696 := hS6699.lo
 rw [f_impl_Cluster_commit_L1] at hr
 with_reducible refine W.seq ?_
 with_reducible refine W.seq ?_
 with_reducible refine W.region ?_
 refine WL.move .nil rfl rfl rfl rfl ?_
 refine WL.move .nil rfl rfl rfl rfl ?_
 refine WL.nilCheck .nil rfl rfl rfl rfl ?_
 refine WL.fieldAddr .nil rfl rfl rfl Try.underlying42 rfl info3 rfl rfl ?_
 obtain ⟨c6715, ecs6716, hrow6717, hwin6718, hb6719⟩ := OD.get h6702 hp28 hx25
 obtain ⟨a6720, cap6721, a6722, cap6723, a6724, cap6725, a6726, cap6727, rfl⟩ := GPeer.ofB hb6719
 refine WL.load1 .nil rfl rfl rfl Try.underlying3 rfl rfl hrow6717 ((win_get (m := 3) hwin6718 (show (3 : Nat) < 9 by decide)).trans rfl) ?_
 refine WL.bin .nil rfl rfl rfl rfl rfl rfl ?_
 refine WL.nil ?_
 refine Ex.thn_norm ?_
 refine W.condD rfl (fun hc6729 => ?_) (fun hc6729 => ?_)
 {
 replace hr := ite_pos hr hc6729
 with_reducible refine W.skip ?_
 refine Ex.thn_norm ?_
 with_reducible refine W.seq ?_
 with_reducible refine W.block ?_
 with_reducible refine W.seq ?_
 with_reducible refine W.region ?_
 refine WL.assign .nil rfl rfl rfl rfl ?_
 refine WL.nil ?_
 refine Ex.thn_norm ?_
 with_reducible refine W.seq ?_
 with_reducible refine W.seq ?_
 with_reducible refine W.region ?_
 refine WL.move .nil rfl rfl rfl rfl ?_
 refine WL.nilCheck .nil rfl rfl rfl rfl ?_
 refine WL.fieldAddr .nil rfl rfl rfl Try.underlying42 rfl info31 rfl rfl ?_
 obtain ⟨S7369, hs7370, hs7371, hs7372, h7373, h7374⟩ := GPeer.open_Match h6702 hp28 hx25 hrow6717 hwin6718 (List.forall_mem_nil _)
 refine WL.load1 .nil rfl rfl rfl Try.underlying31 rfl rfl hrow6717 ((win_get (m := 8) hwin6718 (show (8 : Nat) < 9 by decide)).trans rfl) ?_
 refine WL.len .nil rfl rfl rfl Try.underlying31 rfl ?_
 refine WL.move .nil rfl rfl rfl rfl ?_
 refine WL.nil ?_
 refine Ex.thn_norm ?_
 with_reducible refine W.block ?_
 refine W.loopF (fun k2 fr n H => ∃ (x7757 : Int) (x7759 : Int) (S7761 : Nat → Prop) (F : Heap), fr = [(0, .pointer (some ⟨p0, 0, none⟩)), (1, .int .i64 x18), (4, .pointer (some ⟨b26, el27, none⟩)), (5, .int .i64 x6701), (6, .int .i64 x7757), (31, .slice a6726 x25.Match.length cap6727), (32, .int .i64 (x25.Match.length : Int)), (33, .int .i64 x7759)] ∧ St lo n H F ∧ Ext n0 F0 n F ∧ H p0 = some (.row ez0 [.slice a2 x1.Peers.length cap3, .slice a7 x1.Net.length cap8, .slice a11 x1.Chosen.length cap12, .bool x1.Conflict]) ∧ F p0 = none ∧ OW lo n H F (.slice a6726 x25.Match.length cap6727) x25.Match ∧ OD lo n H F S7761 [((x18).toNat, 8, .slice a6726 x25.Match.length cap6727)] (.slice a2 x1.Peers.length cap3) x1.Peers ∧ OW lo n H F (.slice a7 x1.Net.length cap8) x1.Net ∧ OW lo n H F (.slice a11 x1.Chosen.length cap12) x1.Chosen ∧ idOf (.slice a6726 x25.Match.length cap6727) ≠ some p0 ∧ ¬ S7761 p0 ∧ (∀ b, S7761 b → idOf (.slice a6726 x25.Match.length cap6727) ≠ some b) ∧ idOf (.slice a7 x1.Net.length cap8) ≠ some p0 ∧ (∀ b, idOf (.slice a7 x1.Net.length cap8) = some b → idOf (.slice a6726 x25.Match.length cap6727) ≠ some b) ∧ (∀ b, idOf (.slice a7 x1.Net.length cap8) = some b → ¬ S7761 b) ∧ idOf (.slice a11 x1.Chosen.length cap12) ≠ some p0 ∧ (∀ b, idOf (.slice a11 x1.Chosen.length cap12) = some b → idOf (.slice a6726 x25.Match.length cap6727) ≠ some b) ∧ (∀ b, idOf (.slice a11 x1.Chosen.length cap12) = some b → ¬ S7761 b) ∧ (∀ b, idOf (.slice a11 x1.Chosen.length cap12) = some b → idOf (.slice a7 x1.Net.length cap8) ≠ some b) ∧ f_impl_Cluster_commit_L2 x25 x6701 x1 x18 (f_impl_Cluster_commit_L1 x25 x1 x18 k1) k2 x7757 x7759 = some res) BIG (fr0 := [(0, .pointer (some ⟨p0, 0, none⟩)), (1, .int .i64 x18), (4, .pointer (some ⟨b26, el27, none⟩)), (5, .int .i64 x6701), (6, .int .i64 0), (31, .slice a6726 x25.Match.length cap6727), (32, .int .i64 (x25.Match.length : Int)), (33, .int .i64 0)]) (Fr.le_cons rfl (Fr.le_cons rfl (Fr.le_cons rfl (Fr.le_cons rfl (Fr.le_cons rfl (Fr.le_cons rfl (Fr.le_cons rfl (Fr.le_cons rfl Fr.le_nil)))))))) ?_ ?_ ?_
 {
 exact ⟨0, 0, S7369, F6698, rfl, hS6699, hE6700, ho6706, fo6707, h7373, h7374, h6704, h6705, (Ap.sub0 hs7371 ap6708), (Ap.sub0 hs7370 ap6708), (Ap.sym hs7372), ap6709, (Ap.sym (Ap.sub hs7371 (Ap.sym ap6710))), (Ap.sym (Ap.sub hs7370 (Ap.sym ap6710))), ap6711, (Ap.sym (Ap.sub hs7371 (Ap.sym ap6712))), (Ap.sym (Ap.sub hs7370 (Ap.sym ap6712))), ap6713, hr⟩
 }
 {
 intro fr n H hI
 obtain ⟨x7757, x7759, S7761, F7754, hfr, hS7755, hE7756, ho7764, fo7765, h7758, h7760, h7762, h7763, ap7766, ap7767, ap7768, ap7769, ap7770, ap7771, ap7772, ap7773, ap7774, ap7775, hr⟩ := hI
 rw [f_impl_Cluster_commit_L2] at hr
 cases hr
 }
 {
 intro k2 _ n7752 H7753 hI
 obtain ⟨x7757, x7759, S7761, F7754, rfl, hS7755, hE7756, ho7764, fo7765, h7758, h7760, h7762, h7763, ap7766, ap7767, ap7768, ap7769, ap7770, ap7771, ap7772, ap7773, ap7774, ap7775, hr⟩ := hI
 have lt7776 := hS7755.lt ho7764
 have hlen7752 := hE7756.le
 have hlon7752 := hS7755.lo
 rw [f_impl_Cluster_commit_L2] at hr
 with_reducible refine W.seq ?_
 with_reducible refine W.region ?_
 refine WL.bin .nil rfl rfl rfl rfl rfl rfl ?_
 refine WL.nil ?_
 refine Ex.thn_norm ?_
 with_reducible refine W.seq ?_
 refine W.condD rfl (fun hc7778 => ?_) (fun hc7778 => ?_)
 {
 replace hr := ite_pos hr hc7778
 with_reducible refine W.skip ?_
 refine Ex.thn_norm ?_
 with_reducible refine W.seq ?_
 refine W.cut (fun fr n H => ∃ (x7796 : Int) (S7799 : Nat → Prop) (F : Heap), fr = [(0, .pointer (some ⟨p0, 0, none⟩)), (1, .int .i64 x18), (4, .pointer (some ⟨b26, el27, none⟩)), (5, .int .i64 x6701), (6, .int .i64 x7796), (31, .slice a6726 x25.Match.length cap6727), (32, .int .i64 (x25.Match.length : Int)), (33, .int .i64 x7759)] ∧ St lo n H F ∧ Ext n0 F0 n F ∧ H p0 = some (.row ez0 [.slice a2 x1.Peers.length cap3, .slice a7 x1.Net.length cap8, .slice a11 x1.Chosen.length cap12, .bool x1.Conflict]) ∧ F p0 = none ∧ OW lo n H F (.slice a6726 x25.Match.length cap6727) x25.Match ∧ OD lo n H F S7799 [((x18).toNat, 8, .slice a6726 x25.Match.length cap6727)] (.slice a2 x1.Peers.length cap3) x1.Peers ∧ OW lo n H F (.slice a7 x1.Net.length cap8) x1.Net ∧ OW lo n H F (.slice a11 x1.Chosen.length cap12) x1.Chosen ∧ idOf (.slice a6726 x25.Match.length cap6727) ≠ some p0 ∧ ¬ S7799 p0 ∧ (∀ b, S7799 b → idOf (.slice a6726 x25.Match.length cap6727) ≠ some b) ∧ idOf (.slice a7 x1.Net.length cap8) ≠ some p0 ∧ (∀ b, idOf (.slice a7 x1.Net.length cap8) = some b → idOf (.slice a6726 x25.Match.length cap6727) ≠ some b) ∧ (∀ b, idOf (.slice a7 x1.Net.length cap8) = some b → ¬ S7799 b) ∧ idOf (.slice a11 x1.Chosen.length cap12) ≠ some p0 ∧ (∀ b, idOf (.slice a11 x1.Chosen.length cap12) = some b → idOf (.slice a6726 x25.Match.length cap6727) ≠ some b) ∧ (∀ b, idOf (.slice a11 x1.Chosen.length cap12) = some b → ¬ S7799 b) ∧ (∀ b, idOf (.slice a11 x1.Chosen.length cap12) = some b → idOf (.slice a7 x1.Net.length cap8) ≠ some b) ∧ f_impl_Cluster_commit_J3 x7759 (f_impl_Cluster_commit_L2 x25 x6701 x1 x18 (f_impl_Cluster_commit_L1 x25 x1 x18 k1) k2) x7796 = some res) ?_ ?_
 {
 with_reducible refine W.block ?_
 with_reducible refine W.seq ?_
 with_reducible refine W.region ?_
 obtain ⟨x7816, hx7816, hr⟩ := bnd_some hr
 refine GL.indexO .nil rfl rfl rfl Try.underlying31 info3 rfl rfl h7758 rfl hx7816 (fun b7817 kp7818 c7819 ecs7820 hid7824 hrow7821 hwin7822 hR7823 hup7825 => ?_)
 have hcs : _ = ([.int .i64 x7816] : List Value) := hR7823
 subst hcs
 refine WL.load1 .nil rfl rfl rfl Try.underlying3 rfl rfl hrow7821 ((win_get0 hwin7822 (show (0 : Nat) < 1 by decide)).trans rfl) ?_
 refine WL.assign .nil rfl rfl rfl rfl ?_
 refine WL.nil ?_
 refine Ex.thn_norm ?_
 with_reducible refine W.seq ?_
 with_reducible refine W.region ?_
 refine WL.move .nil rfl rfl rfl rfl ?_
 refine WL.move .nil rfl rfl rfl rfl ?_
 refine WL.bin .nil rfl rfl rfl rfl rfl rfl ?_
 refine WL.nil ?_
 refine Ex.thn_norm ?_
 refine W.condD rfl (fun hc7826 => ?_) (fun hc7826 => ?_)
 {
 replace hr := ite_pos hr hc7826
 with_reducible refine W.region ?_
 refine WL.move .nil rfl rfl rfl rfl ?_
 obtain ⟨hc7827, hr⟩ := chk_some hr
 refine WL.addI .nil rfl rfl rfl rfl rfl hc7827.1 hc7827.2 ?_
 refine WL.assign .nil rfl rfl rfl rfl ?_
 refine WL.nil ?_
 with_reducible refine Ex.blk_norm ?_
 refine Ex.thn_norm ?_
 exact ⟨[(0, .pointer (some ⟨p0, 0, none⟩)), (1, .int .i64 x18), (4, .pointer (some ⟨b26, el27, none⟩)), (5, .int .i64 x6701), (6, .int .i64 (x7757 + 1)), (31, .slice a6726 x25.Match.length cap6727), (32, .int .i64 (x25.Match.length : Int)), (33, .int .i64 x7759)], (Fr.le_cons rfl (Fr.le_cons rfl (Fr.le_cons rfl (Fr.le_cons rfl (Fr.le_cons rfl (Fr.le_cons rfl (Fr.le_cons rfl (Fr.le_cons rfl Fr.le_nil)))))))), (x7757 + 1), S7761, F7754, rfl, hS7755, hE7756, ho7764, fo7765, h7758, h7760, h7762, h7763, ap7766, ap7767, ap7768, ap7769, ap7770, ap7771, ap7772, ap7773, ap7774, ap7775, hr⟩
 }
 {
 replace hr := ite_neg hr hc7826
 with_reducible refine W.skip ?_
 with_reducible refine Ex.blk_norm ?_
 refine Ex.thn_norm ?_
 exact ⟨[(0, .pointer (some ⟨p0, 0, none⟩)), (1, .int .i64 x18), (4, .pointer (some ⟨b26, el27, none⟩)), (5, .int .i64 x6701), (6, .int .i64 x7757), (31, .slice a6726 x25.Match.length cap6727), (32, .int .i64 (x25.Match.length : Int)), (33, .int .i64 x7759)], (Fr.le_cons rfl (Fr.le_cons rfl (Fr.le_cons rfl (Fr.le_cons rfl (Fr.le_cons rfl (Fr.le_cons rfl (Fr.le_cons rfl (Fr.le_cons rfl Fr.le_nil)))))))), x7757, S7761, F7754, rfl, hS7755, hE7756, ho7764, fo7765, h7758, h7760, h7762, h7763, ap7766, ap7767, ap7768, ap7769, ap7770, ap7771, ap7772, ap7773, ap7774, ap7775, hr⟩
 }
 }
 {
 intro _ n7791 H7792 hI
 obtain ⟨x7796, S7799, F7793, rfl, hS7794, hE7795, ho7802, fo7803, h7797, h7798, h7800, h7801, ap7804, ap7805, ap7806, ap7807, ap7808, ap7809, ap7810, ap7811, ap7812, ap7813, hr⟩ := hI
 have lt7814 := hS7794.lt ho7802
 have hlen7791 := hE7795.le
 have hlon7791 := hS7794.lo
 unfold f_impl_Cluster_commit_J3 at hr
 with_reducible refine W.region ?_
 obtain ⟨hc7815, hr⟩ := chk_some hr
 refine WL.addI .nil rfl rfl rfl rfl rfl hc7815.1 hc7815.2 ?_
 refine WL.move .nil rfl rfl rfl rfl ?_
 refine WL.nil ?_
 refine Ex.thn_norm ?_
 exact ⟨[(0, .pointer (some ⟨p0, 0, none⟩)), (1, .int .i64 x18), (4, .pointer (some ⟨b26, el27, none⟩)), (5, .int .i64 x6701), (6, .int .i64 x7796), (31, .slice a6726 x25.Match.length cap6727), (32, .int .i64 (x25.Match.length : Int)), (33, .int .i64 (x7759 + 1))], (Fr.le_cons rfl (Fr.le_cons rfl (Fr.le_cons rfl (Fr.le_cons rfl (Fr.le_cons rfl (Fr.le_cons rfl (Fr.le_cons rfl (Fr.le_cons rfl Fr.le_nil)))))))), x7796, (x7759 + 1), S7799, F7793, rfl, hS7794, hE7795, ho7802, fo7803, h7797, h7798, h7800, h7801, ap7804, ap7805, ap7806, ap7807, ap7808, ap7809, ap7810, ap7811, ap7812, ap7813, hr⟩
 }
 }
 {
 replace hr := ite_neg hr hc7778
 with_reducible refine W.exit ?_
 with_reducible refine Ex.thn_ex ?_
 with_reducible refine Ex.thn_ex ?_
 with_reducible refine Ex.blk_here ?_
 refine Ex.thn_norm ?_
 with_reducible refine W.seq ?_
 refine W.cut (fun fr n H => ∃ (x7906 : Bool) (S7908 : Nat → Prop) (F : Heap), fr = [(0, .pointer (some ⟨p0, 0, none⟩)), (1, .int .i64 x18), (4, .pointer (some ⟨b26, el27, none⟩)), (5, .int .i64 x6701), (60, .bool x7906)] ∧ St lo n H F ∧ Ext n0 F0 n F ∧ H p0 = some (.row ez0 [.slice a2 x1.Peers.length cap3, .slice a7 x1.Net.length cap8, .slice a11 x1.Chosen.length cap12, .bool x1.Conflict]) ∧ F p0 = none ∧ OD lo n H F S7908 [] (.slice a2 x1.Peers.length cap3) x1.Peers ∧ OW lo n H F (.slice a7 x1.Net.length cap8) x1.Net ∧ OW lo n H F (.slice a11 x1.Chosen.length cap12) x1.Chosen ∧ ¬ S7908 p0 ∧ idOf (.slice a7 x1.Net.length cap8) ≠ some p0 ∧ (∀ b, idOf (.slice a7 x1.Net.length cap8) = some b → ¬ S7908 b) ∧ idOf (.slice a11 x1.Chosen.length cap12) ≠ some p0 ∧ (∀ b, idOf (.slice a11 x1.Chosen.length cap12) = some b → ¬ S7908 b) ∧ (∀ b, idOf (.slice a11 x1.Chosen.length cap12) = some b → idOf (.slice a7 x1.Net.length cap8) ≠ some b) ∧ f_impl_Cluster_commit_J4 x1 x18 x25 x6701 (f_impl_Cluster_commit_L1 x25 x1 x18 k1) x7906 = some res) ?_ ?_
 {
 refine W.regionD [0, 1, 2, 3, 4, 5, 6, 7, 8, 9, 10, 11, 12, 13, 14, 15, 16, 17] [false, false, false, false, false, false, false, false, false, false, false, false, false, false, false, false, false, false] rfl rfl (by kernel_rfl) (by kernel_rfl) (by (conv => lhs; simp only [List.map_cons, List.map_nil, List.getD_cons_zero, List.getD_cons_succ]) <;> rfl) ?_
 refine WL.move .r rfl rfl rfl rfl ?_
 refine WL.move .r rfl rfl rfl rfl ?_
 refine WL.nilCheck .r rfl rfl rfl rfl ?_
 refine WL.fieldAddr .r rfl rfl rfl Try.underlying30 rfl info26 rfl rfl ?_
 refine WL.load1 .r rfl rfl rfl Try.underlying26 rfl rfl ho7764 rfl ?_
 refine WL.len .r rfl rfl rfl Try.underlying26 rfl ?_
 obtain ⟨x7945, hx7945, hr⟩ := bnd_some hr
 refine GL.callP g.good .r rfl rfl rfl rfl rfl rfl Try.func34 rfl rfl (Nat.le_refl _) (f_impl_most_k  g hS7755 hx7945) (fun v n7946 H7947 hn7948 hk7949 hp7950 => ?_)
 obtain ⟨hS7951, rfl⟩ := hp7950
 have ho7952 := (hk7949 _ (by have := lt7776; omega)).trans ho7764
 have h7953 := OW.keep (n' := n7946) h7758 (by omega) (fun i hi => hk7949 i (OW.id_lt h7758 hi).2)
 have h7954 := OD.keep (n' := n7946) h7760 (by omega) (fun i hi => hk7949 i (OD.id_lt h7760 hi).2)
 have h7955 := OW.keep (n' := n7946) h7762 (by omega) (fun i hi => hk7949 i (OW.id_lt h7762 hi).2)
 have h7956 := OW.keep (n' := n7946) h7763 (by omega) (fun i hi => hk7949 i (OW.id_lt h7763 hi).2)
 have hS7957 : St lo n7946 H7947 F7754 := ⟨by have := hS7755.lo; omega, hS7951.hb, hS7951.fh⟩
 have hlon7946 := hS7957.lo
 refine WL.bin .r rfl rfl rfl rfl rfl rfl ?_
 refine WL.move .r rfl rfl rfl rfl ?_
 refine WL.guardD rfl rfl rfl (fun hg7958 => ?_) (fun hg7958 => ?_)
 {
 replace hr := ite_pos hr hg7958
 refine WL.move .r rfl rfl rfl rfl ?_
 refine WL.move .r rfl rfl rfl rfl ?_
 obtain ⟨c7959, ecs7960, hrow7961, hwin7962, hb7963⟩ := OD.get h7954 hp28 hx25
 obtain ⟨a7964, cap7965, a7966, cap7967, a7968, cap7969, a7970, cap7971, rfl⟩ := GPeer.ofB hb7963
 have hq7972 := OD.hole h7954 hp28 hx25 hrow7961 hwin7962
 obtain ⟨rfl, rfl⟩ := hdr_eq (a := a7970) (c := cap7971) hq7972
 obtain ⟨S7973, hs7974, hs7975, hs7976, h7977, h7978⟩ := GPeer.open_Log h7954 hp28 hx25 hrow7961 hwin7962 (List.forall_mem_cons.2 ⟨fun h => absurd (show (8 : Nat) = 5 from h.2) (by decide), List.forall_mem_nil _⟩)
 obtain ⟨x7980, hx7980, hr⟩ := bnd_some hr
 refine GL.callP g.good .r rfl rfl rfl rfl rfl rfl Try.func94 rfl rfl (Nat.le_refl _) (f_impl_Peer_term_elem0_k  g hS7957 hrow7961 hwin7962 h7977 hx7980) (fun v n7981 H7982 hn7983 hk7984 hp7985 => ?_)
 obtain ⟨hS7986, rfl⟩ := hp7985
 have ho7987 := (hk7984 _ (by have := lt7776; omega)).trans ho7952
 have h7988 := OW.keep (n' := n7981) h7953 (by omega) (fun i hi => hk7984 i (OW.id_lt h7953 hi).2)
 have h7989 := OD.keep (n' := n7981) h7978 (by omega) (fun i hi => hk7984 i (OD.id_lt h7978 hi).2)
 have h7990 := OW.keep (n' := n7981) h7955 (by omega) (fun i hi => hk7984 i (OW.id_lt h7955 hi).2)
 have h7991 := OW.keep (n' := n7981) h7956 (by omega) (fun i hi => hk7984 i (OW.id_lt h7956 hi).2)
 have h7992 := OW.keep (n' := n7981) h7977 (by omega) (fun i hi => hk7984 i (OW.id_lt h7977 hi).2)
 have hS7993 : St lo n7981 H7982 F7754 := ⟨by have := hS7957.lo; omega, hS7986.hb, hS7986.fh⟩
 have hlon7981 := hS7993.lo
 refine WL.move .r rfl rfl rfl rfl ?_
 refine WL.nilCheck .r rfl rfl rfl rfl ?_
 refine WL.fieldAddr .r rfl rfl rfl Try.underlying42 rfl info3 rfl rfl ?_
 obtain ⟨c7994, ecs7995, hrow7996, hwin7997, hb7998⟩ := OD.get h7989 hp28 hx25
 obtain ⟨a7999, cap8000, a8001, cap8002, a8003, cap8004, a8005, cap8006, rfl⟩ := GPeer.ofB hb7998
 have hq8007 := OD.hole h7989 hp28 hx25 hrow7996 hwin7997
 obtain ⟨rfl, rfl⟩ := hdr_eq (a := a7999) (c := cap8000) hq8007
 have hq8008 := OD.hole (OD.swap h7989) hp28 hx25 hrow7996 hwin7997
 obtain ⟨rfl, rfl⟩ := hdr_eq (a := a8005) (c := cap8006) hq8008
 refine WL.load1 .r rfl rfl rfl Try.underlying3 rfl rfl hrow7996 ((win_get (m := 1) hwin7997 (show (1 : Nat) < 9 by decide)).trans rfl) ?_
 refine WL.bin .r rfl rfl rfl rfl rfl rfl ?_
 refine WL.pick .r rfl rfl rfl rfl rfl ?_
 refine WL.nil ?_
 refine Ex.thn_norm ?_
 obtain ⟨S8009, hs8010, h8011⟩ := GPeer.close0_Log h7989 hx25 h7992
 obtain ⟨S8012, hs8013, h8014⟩ := GPeer.close0_Match h8011 hx25 h7988
 exact ⟨[(0, .pointer (some ⟨p0, 0, none⟩)), (1, .int .i64 x18), (4, .pointer (some ⟨b26, el27, none⟩)), (5, .int .i64 x6701), (60, .bool (decide (x7980 = x25.Term)))], (Fr.le_cons rfl (Fr.le_cons rfl (Fr.le_cons rfl (Fr.le_cons rfl (Fr.le_cons rfl Fr.le_nil))))), (decide (x7980 = x25.Term)), S8012, F7754, rfl, hS7993, (hE7756.up (by omega)), ho7987, fo7765, h8014, h7990, h7991, (Ap.or0 hs8013 (Ap.or0 hs8010 (Ap.sub0 hs7974 ap7767) (Ap.sub0 hs7975 ap7767)) ap7766), ap7769, (Ap.sym (Ap.or hs8013 (Ap.or hs8010 (Ap.sub hs7974 (Ap.sym ap7771)) (Ap.sub hs7975 (Ap.sym ap7771))) (Ap.sym ap7770))), ap7772, (Ap.sym (Ap.or hs8013 (Ap.or hs8010 (Ap.sub hs7974 (Ap.sym ap7774)) (Ap.sub hs7975 (Ap.sym ap7774))) (Ap.sym ap7773))), ap7775, hr⟩
 }
 {
 replace hr := ite_neg hr hg7958
 refine WL.skip .r rfl rfl ?_
 refine WL.skip .r rfl rfl ?_
 refine WL.skip .r rfl rfl ?_
 refine WL.skip .r rfl rfl ?_
 refine WL.skip .r rfl rfl ?_
 refine WL.skip .r rfl rfl ?_
 refine WL.skip .r rfl rfl ?_
 refine WL.skip .r rfl rfl ?_
 refine WL.pick .r rfl rfl rfl rfl rfl ?_
 refine WL.nil ?_
 refine Ex.thn_norm ?_
 obtain ⟨S8015, hs8016, h8017⟩ := GPeer.close0_Match h7954 hx25 h7953
 exact ⟨[(0, .pointer (some ⟨p0, 0, none⟩)), (1, .int .i64 x18), (4, .pointer (some ⟨b26, el27, none⟩)), (5, .int .i64 x6701), (60, .bool false)], (Fr.le_cons rfl (Fr.le_cons rfl (Fr.le_cons rfl (Fr.le_cons rfl (Fr.le_cons rfl Fr.le_nil))))), false, S8015, F7754, rfl, hS7957, (hE7756.up (by omega)), ho7952, fo7765, h8017, h7955, h7956, (Ap.or0 hs8016 ap7767 ap7766), ap7769, (Ap.sym (Ap.or hs8016 (Ap.sym ap7771) (Ap.sym ap7770))), ap7772, (Ap.sym (Ap.or hs8016 (Ap.sym ap7774) (Ap.sym ap7773))), ap7775, hr⟩
 }
 }
 {
 intro _ n7901 H7902 hI
 obtain ⟨x7906, S7908, F7903, rfl, hS7904, hE7905, ho7911, fo7912, h7907, h7909, h7910, ap7913, ap7914, ap7915, ap7916, ap7917, ap7918, hr⟩ := hI
 have lt7919 := hS7904.lt ho7911
 have hlen7901 := hE7905.le
 have hlon7901 := hS7904.lo
 unfold f_impl_Cluster_commit_J4 at hr
 refine W.cond rfl (fun hc7920 => ?_) (fun hc7920 => ?_)
 {
 replace hr := iteB_pos hr hc7920
 with_reducible refine W.seq ?_
 with_reducible refine W.region ?_
 refine WL.move .nil rfl rfl rfl rfl ?_
 refine WL.move .nil rfl rfl rfl rfl ?_
 refine WL.nilCheck .nil rfl rfl rfl rfl ?_
 refine WL.fieldAddr .nil rfl rfl rfl Try.underlying42 rfl info3 rfl rfl ?_
 obtain ⟨c7921, ecs7922, hrow7923, hwin7924, hb7925⟩ := OD.get h7907 hp28 hx25
 obtain ⟨a7926, cap7927, a7928, cap7929, a7930, cap7931, a7932, cap7933, rfl⟩ := GPeer.ofB hb7925
 refine GL.store hS7904 .nil (vc := [.int .i64 x6701]) rfl rfl rfl info3 rfl rfl rfl rfl hrow7923 (OD.fnone h7907 (OD.bS h7907 hp28)) (win_fit2 hwin7924 (Nat.le_of_ble_eq_true rfl) rfl (Nat.le_of_ble_eq_true rfl)) (by have := (OD.id_lt h7907 (OD.bS h7907 hp28)).1; omega) (one1 rfl) rfl (fun H7934 hS7935 ho7936 hk7937 => ?_)
 have ho7938 := (hk7937 p0 (fun hj => ap7913 (by rw [hj]; exact (OD.bS h7907 hp28)))).trans ho7911
 have h7939 := OW.keep h7909 (Nat.le_refl _) (fun i hi => hk7937 i (fun hj => ap7915 i hi (by rw [hj]; exact (OD.bS h7907 hp28))))
 have h7940 := OW.keep h7910 (Nat.le_refl _) (fun i hi => hk7937 i (fun hj => ap7917 i hi (by rw [hj]; exact (OD.bS h7907 hp28))))
 have h7941 := GPeer.put_Commit h7907 hp28 hx25 hrow7923 hwin7924 (w := x6701) ho7936 hk7937
 have hl7942 : x1.Peers.length = (setI x1.Peers x18 ({ Up := x25.Up, Term := x25.Term, Vote := x25.Vote, Commit := x6701, Role := x25.Role, Log := x25.Log, Votes := x25.Votes, Next := x25.Next, Match := x25.Match } : GPeer)).length := (setI_length _ _ _).symm
 have hx7943 : idx (setI x1.Peers x18 ({ Up := x25.Up, Term := x25.Term, Vote := x25.Vote, Commit := x6701, Role := x25.Role, Log := x25.Log, Votes := x25.Votes, Next := x25.Next, Match := x25.Match } : GPeer)) x18 = some ({ Up := x25.Up, Term := x25.Term, Vote := x25.Vote, Commit := x6701, Role := x25.Role, Log := x25.Log, Votes := x25.Votes, Next := x25.Next, Match := x25.Match } : GPeer) := idx_setI_same hx25
 refine WL.nil ?_
 refine Ex.thn_norm ?_
 with_reducible refine W.exit ?_
 with_reducible refine Ex.blk_out (by decide) ?_
 with_reducible refine Ex.thn_ex ?_
 with_reducible refine Ex.thn_ex ?_
 with_reducible refine Ex.blk_here ?_
 refine Ex.thn_norm ?_
 exact ⟨[(0, .pointer (some ⟨p0, 0, none⟩)), (1, .int .i64 x18)], (Fr.le_cons rfl (Fr.le_cons rfl Fr.le_nil)), (setI x1.Peers x18 ({ Up := x25.Up, Term := x25.Term, Vote := x25.Vote, Commit := x6701, Role := x25.Role, Log := x25.Log, Votes := x25.Votes, Next := x25.Next, Match := x25.Match } : GPeer)), S7908, F7903, rfl, hS7935, hE7905, ho7938, fo7912, h7941, hl7942, h7939, h7940, ap7913, ap7914, ap7915, ap7916, ap7917, ap7918, hr⟩
 }
 {
 replace hr := iteB_neg hr hc7920
 with_reducible refine W.skip ?_
 with_reducible refine Ex.blk_norm ?_
 refine Ex.thn_norm ?_
 with_reducible refine W.region ?_
 refine WL.move .nil rfl rfl rfl rfl ?_
 obtain ⟨hc7944, hr⟩ := chk_some hr
 refine WL.subI .nil rfl rfl rfl rfl rfl hc7944.1 hc7944.2 ?_
 refine WL.assign .nil rfl rfl rfl rfl ?_
 refine WL.nil ?_
 refine Ex.thn_norm ?_
 exact ⟨[(0, .pointer (some ⟨p0, 0, none⟩)), (1, .int .i64 x18), (4, .pointer (some ⟨b26, el27, none⟩)), (5, .int .i64 (x6701 - 1))], (Fr.le_cons rfl (Fr.le_cons rfl (Fr.le_cons rfl (Fr.le_cons rfl Fr.le_nil)))), (x6701 - 1), S7908, F7903, rfl, hS7904, hE7905, ho7911, fo7912, h7907, h7909, h7910, ap7913, ap7914, ap7915, ap7916, ap7917, ap7918, hr⟩
 }
 }
 }
 }
 }
 {
 replace hr := ite_neg hr hc6729
 with_reducible refine W.exit ?_
 with_reducible refine Ex.thn_ex ?_
 with_reducible refine Ex.thn_ex ?_
 with_reducible refine Ex.blk_here ?_
 refine Ex.thn_norm ?_
 exact ⟨[(0, .pointer (some ⟨p0, 0, none⟩)), (1, .int .i64 x18)], (Fr.le_cons rfl (Fr.le_cons rfl Fr.le_nil)), x1.Peers, S6703, F6698, rfl, hS6699, hE6700, ho6706, fo6707, h6702, rfl, h6704, h6705, ap6708, ap6709, ap6710, ap6711, ap6712, ap6713, hr⟩
 }
 }
 }
 {
 intro _ n3999 H4000 hI
 obtain ⟨xs4004, S4007, F4001, rfl, hS4002, hE4003, ho4010, fo4011, h4005, hl4006, h4008, h4009, ap4012, ap4013, ap4014, ap4015, ap4016, ap4017, hr⟩ := hI
 have lt4018 := hS4002.lt ho4010
 have hlen3999 := hE4003.le
 have hlon3999 := hS4002.lo
 unfold f_impl_Cluster_commit_J0 at hr
 with_reducible refine W.region ?_
 refine WL.move .nil rfl rfl rfl rfl ?_
 refine WL.move .nil rfl rfl rfl rfl ?_
 obtain ⟨x4019, hx4019, hr⟩ := bnd_some hr
 refine GL.callIO g .nil (fun i => (F4001 i).isSome = true ∨ i = p0 ∨ S4007 i ∨ idOf (.slice a7 x1.Net.length cap8) = some i ∨ idOf (.slice a11 x1.Chosen.length cap12) = some i) rfl rfl rfl rfl rfl rfl Try.func95 rfl rfl (Nat.le_refl _) hS4002.lo (f_impl_Cluster_choose_k (x1 := ({ Peers := xs4004, Net := x1.Net, Chosen := x1.Chosen, Conflict := x1.Conflict } : GCluster)) g (St.vis hS4002 (fun i hi => .inl hi)) (by rw [← hl4006]; exact vis_get ho4010 (.inr (.inl rfl))) fo4011 lo17 (OD.head hl4006 (OD.vis h4005 (fun i hi => (.inr (.inr (.inl hi)))))) (OW.vis h4008 (fun i hi => (.inr (.inr (.inr (.inl hi)))))) (OW.vis h4009 (fun i hi => (.inr (.inr (.inr (.inr (hi))))))) ap4012 ap4013 ap4014 ap4015 ap4016 ap4017 hx4019) (fun v n4020 H4021 H4022 hn4023 hp4024 hle4025 hnew4026 hk4027 hd4028 => ?_)
 obtain ⟨F4039, S4030, a4032, cap4033, a4035, cap4036, hX4040, hS4038, ho4041, rfl, h4029, hl4031, h4034, h4037, ap4042, ap4043, ap4044, ap4045, ap4046, ap4047⟩ := hp4024
 have hS4048 : St lo n4020 H4021 _ := ⟨hS4038.lo, fun i hi => (hnew4026 i (by omega)).trans (hS4038.hb i hi), hS4038.fh.trans hle4025⟩
 have fo4049 := (hX4040.eq _ (by have := lt4018; omega)).trans fo4011
 have hE4050 := (hE4003.up (n' := n3999) (by omega)).trans hX4040
 have ho4051 := hle4025 _ _ ho4041
 have h4052 := OD.le h4029 hle4025
 have hl4053 : x1.Peers.length = x4019.Peers.length := hl4006.trans hl4031
 rw [← hl4006] at h4052
 have h4055 := OW.le h4034 hle4025
 have h4057 := OW.le h4037 hle4025
 rw [← hl4006] at ho4051
 have hlon4020 := hS4048.lo
 have lt4058 := hS4048.lt ho4051
 refine WL.nil ?_
 obtain rfl := Option.some.inj hr
 exact ⟨.inl rfl, _, .nil, ⟨F4039, S4030, a4032, cap4033, a4035, cap4036, (hE4050.up (by omega)), hS4048, ho4051, rfl, h4052, hl4053, h4055, h4057, ap4042, ap4043, ap4044, ap4045, ap4046, ap4047⟩⟩
 }
theorem f_impl_copyRecs_own0_k {Δ : Prims} (g : Env Try.prog Δ) {lo n0 : Nat} {H0 F0 : Heap} (hS : St lo n0 H0 F0) {a2 : Option Addr} {cap3 : Nat} {xs1 : (List GRec)} {lw0 : Nat} (h4 : OW lw0 n0 H0 F0 (.slice a2 xs1.length cap3) xs1) {res : ((List GRec))} (hr : f_impl_copyRecs_own0 xs1 = some res) :
    C Try.prog Δ n0 61 [.slice a2 xs1.length cap3] n0 H0 (fun v n H => ∃ (F : Heap) (ra1 : Option Addr) (rcap2 : Nat), Ext n0 F0 n F ∧ St n0 n H F ∧ v = .slice ra1 res.length rcap2 ∧ OW n0 n H F (.slice ra1 res.length rcap2) res) := by
 refine C.body Try.func61 rfl rfl ?_
 unfold f_impl_copyRecs_own0 at hr
 have hS0 : St n0 n0 H0 F0 := hS.low (Nat.le_refl _)
 have hE0 := Ext.refl n0 F0
 have hlo0 := hS0.lo
 with_reducible refine W.seq ?_
 with_reducible refine W.region ?_
 refine WL.assign .nil rfl rfl rfl rfl ?_
 refine WL.nil ?_
 refine Ex.thn_norm ?_
 with_reducible refine W.seq ?_
 with_reducible refine W.region ?_
 refine GL.lit (cs := []) (xs := ([] : List GRec)) hS0 .nil rfl rfl rfl Try.underlying28 info35 rfl rfl rfl (by decide) (by decide) rfl rfl rfl rfl rfl RA.nil rfl (fun H6 hS7 hO8 hk9 => ?_)
 have h10 := OW.keep (n' := (n0 + 1)) h4 (by omega) (fun i hi => hk9 i (OW.id_lt h4 hi).2)
 have h11 := OW.lower (lo' := n0) hO8 (by omega)
 have hlon01 := hS7.lo
 refine WL.assign .nil rfl rfl rfl rfl ?_
 refine WL.nil ?_
 refine Ex.thn_norm ?_
 with_reducible refine W.seq ?_
 with_reducible refine W.seq ?_
 with_reducible refine W.region ?_
 refine WL.move .nil rfl rfl rfl rfl ?_
 refine WL.len .nil rfl rfl rfl Try.underlying28 rfl ?_
 refine WL.move .nil rfl rfl rfl rfl ?_
 refine WL.nil ?_
 refine Ex.thn_norm ?_
 with_reducible refine W.block ?_
 refine W.loopF (fun k0 fr n H => ∃ (a410 : Option Addr) (cap411 : Nat) (xs412 : (List GRec)) (x416 : Int) (F : Heap), fr = [(3, .slice a410 xs412.length cap411), (7, .slice a2 xs1.length cap3), (8, .int .i64 (xs1.length : Int)), (9, .int .i64 x416)] ∧ St n0 n H F ∧ Ext n0 F0 n F ∧ OW n0 n H F (.slice a410 xs412.length cap411) xs412 ∧ OW lw0 n H F (.slice a2 xs1.length cap3) xs1 ∧ (∀ b, idOf (.slice a2 xs1.length cap3) = some b → idOf (.slice a410 xs412.length cap411) ≠ some b) ∧ f_impl_copyRecs_own0_L0 xs1 k0 xs412 x416 = some res) BIG (fr0 := [(3, .slice (some ⟨n0, 0, none⟩) ([] : List GRec).length 0), (7, .slice a2 xs1.length cap3), (8, .int .i64 (xs1.length : Int)), (9, .int .i64 0)]) (Fr.le_cons rfl (Fr.le_cons rfl (Fr.le_cons rfl (Fr.le_cons rfl Fr.le_nil)))) ?_ ?_ ?_
 {
 exact ⟨(some ⟨n0, 0, none⟩), 0, ([] : List GRec), 0, F0, rfl, hS7, (hE0.up (by omega)), h11, h10, (Ap.sym (Ap.fresh (OW.lb hO8) (OW.hb h4))), hr⟩
 }
 {
 intro fr n H hI
 obtain ⟨a410, cap411, xs412, x416, F407, hfr, hS408, hE409, h413, h415, ap417, hr⟩ := hI
 rw [f_impl_copyRecs_own0_L0] at hr
 cases hr
 }
 {
 intro k0 _ n405 H406 hI
 obtain ⟨a410, cap411, xs412, x416, F407, rfl, hS408, hE409, h413, h415, ap417, hr⟩ := hI
 have hlen405 := hE409.le
 have hlon405 := hS408.lo
 rw [f_impl_copyRecs_own0_L0] at hr
 with_reducible refine W.seq ?_
 with_reducible refine W.region ?_
 refine WL.bin .nil rfl rfl rfl rfl rfl rfl ?_
 refine WL.nil ?_
 refine Ex.thn_norm ?_
 with_reducible refine W.seq ?_
 refine W.condD rfl (fun hc419 => ?_) (fun hc419 => ?_)
 {
 replace hr := ite_pos hr hc419
 with_reducible refine W.skip ?_
 refine Ex.thn_norm ?_
 with_reducible refine W.seq ?_
 with_reducible refine W.block ?_
 with_reducible refine W.seq ?_
 with_reducible refine W.region ?_
 obtain ⟨x511, hx511, hr⟩ := bnd_some hr
 refine GL.indexO .nil rfl rfl rfl Try.underlying28 info35 rfl rfl h415 rfl hx511 (fun b512 kp513 c514 ecs515 hid519 hrow516 hwin517 hR518 hup520 => ?_)
 obtain ⟨a521, cap522, rfl, h523⟩ := GRec.ofR hR518
 refine WL.loadN .nil (l' := [.int .i64 x511.Term, .int .i64 x511.Index, .slice a521 x511.Data.length cap522]) rfl rfl rfl Try.underlying35 rfl info35 rfl hrow516 hwin517 rfl ?_
 refine GL.alloc hS408 .nil (zc := [.int .i64 0, .int .i64 0, .slice none 0 0]) rfl rfl rfl info35 rfl rfl rfl (fun H524 hS525 ho526 hk527 => ?_)
 have fo528 := hS408.fnone (Nat.le_refl _)
 have h530 := OW.keep (n' := (n405 + 1)) h413 (by omega) (fun i hi => hk527 i (OW.id_lt h413 hi).2)
 have h531 := OW.keep (n' := (n405 + 1)) h415 (by omega) (fun i hi => hk527 i (OW.id_lt h415 hi).2)
 have hlon4051 := hS525.lo
 have lt529 : n405 < (n405 + 1) := by omega
 refine GL.store hS525 .nil (vc := [.int .i64 x511.Term, .int .i64 x511.Index, .slice a521 x511.Data.length cap522]) (c' := [.int .i64 x511.Term, .int .i64 x511.Index, .slice a521 x511.Data.length cap522]) rfl rfl rfl info35 rfl rfl rfl rfl ho526 fo528 (Nat.le_of_ble_eq_true rfl) (by omega) (by repeat' (first | exact List.forall_mem_nil _ | refine List.forall_mem_cons.2 ⟨?_, ?_⟩ | rfl)) rfl (fun H532 hS533 ho534 hk535 => ?_)
 have h536 := OW.keep h530 (Nat.le_refl _) (fun i hi => hk535 i (fun hj => (Ap.alloc (OW.hb h413)) (hj ▸ hi)))
 have h537 := OW.keep h531 (Nat.le_refl _) (fun i hi => hk535 i (fun hj => (Ap.alloc (OW.hb h415)) (hj ▸ hi)))
 refine WL.nil ?_
 refine Ex.thn_norm ?_
 with_reducible refine W.seq ?_
 with_reducible refine W.region ?_
 refine WL.fieldAddr .nil rfl rfl rfl Try.underlying35 rfl info22 rfl rfl ?_
 refine WL.load1 .nil rfl rfl rfl Try.underlying22 rfl rfl ho534 rfl ?_
 obtain ⟨x538, hx538, hr⟩ := bnd_some hr
 refine GL.callP g.good .nil rfl rfl rfl rfl rfl rfl Try.func59 rfl rfl hS533.lo (f_slices_Clone_byte_k  g hS533 (SR.src h523 hS533.fh) hx538) (fun v n539 H540 hn541 hk542 hp543 => ?_)
 obtain ⟨a544, cap545, hS547, rfl, h546⟩ := hp543
 have ho548 := (hk542 _ (by have := lt529; omega)).trans ho534
 have h549 := OW.keep (n' := n539) h536 (by omega) (fun i hi => hk542 i (OW.id_lt h536 hi).2)
 have h550 := OW.keep (n' := n539) h537 (by omega) (fun i hi => hk542 i (OW.id_lt h537 hi).2)
 have hS551 : St n0 n539 H540 F407 := ⟨by have := hS533.lo; omega, hS547.hb, hS547.fh⟩
 have hlon539 := hS551.lo
 have h552 := OW.lower (lo' := n0) h546 (by omega)
 refine WL.fieldAddr .nil rfl rfl rfl Try.underlying35 rfl info22 rfl rfl ?_
 refine GL.store hS551 .nil (vc := [.slice a544 x538.length cap545]) (c' := [.int .i64 x511.Term, .int .i64 x511.Index, .slice a544 x538.length cap545]) rfl rfl rfl info22 rfl rfl rfl rfl ho548 fo528 (Nat.le_of_ble_eq_true rfl) (by omega) (one1 rfl) rfl (fun H557 hS558 ho559 hk560 => ?_)
 have h561 := OW.keep h549 (Nat.le_refl _) (fun i hi => hk560 i (fun hj => (Ap.alloc (OW.hb h413)) (hj ▸ hi)))
 have h562 := OW.keep h550 (Nat.le_refl _) (fun i hi => hk560 i (fun hj => (Ap.alloc (OW.hb h415)) (hj ▸ hi)))
 have h563 := OW.keep h552 (Nat.le_refl _) (fun i hi => hk560 i (fun hj => (Ap.fresh0 (OW.lb h546) (by have := lt529; omega)) (hj ▸ hi)))
 refine WL.nil ?_
 refine Ex.thn_norm ?_
 with_reducible refine W.region ?_
 refine WL.move .nil rfl rfl rfl rfl ?_
 refine WL.loadN .nil (l' := [.int .i64 x511.Term, .int .i64 x511.Index, .slice a544 x538.length cap545]) rfl rfl rfl Try.underlying35 rfl info35 rfl ho559 rfl rfl ?_
 obtain ⟨F564, hS565, hle566, h567, hf568⟩ := OW.freeze h563 hS558
 have fo569 := (hf568 _ (Ap.fresh0 (OW.lb h546) (by have := lt529; omega))).trans fo528
 have h570 := OW.keepF h561 hle566 (fun i hi => (hf568 i (fun hj => (Ap.fresh (OW.lb h546) (OW.hb h536)) i hj hi)).trans (OW.fnone h561 hi))
 have h571 := OW.keepF h562 hle566 (fun i hi => (hf568 i (fun hj => (Ap.fresh (OW.lb h546) (OW.hb h537)) i hj hi)).trans (OW.fnone h562 hi))
 have hE572 : Ext n0 F0 n539 F564 := ⟨Nat.le_trans hE409.le (by omega), hE409.sub.trans hle566, fun i hi => (hf568 i (fun hj => by have := OW.id_lt h563 hj; omega)).trans (hE409.eq i hi)⟩
 refine GL.lit (cs := [.int .i64 x511.Term, .int .i64 x511.Index, .slice a544 x538.length cap545]) (xs := ([({ Term := x511.Term, Index := x511.Index, Data := x538 } : GRec)] : List GRec)) hS565 .nil rfl rfl rfl Try.underlying28 info35 rfl rfl rfl (by decide) (by decide) rfl rfl rfl rfl rfl (RA.cons (cs := [.int .i64 x511.Term, .int .i64 x511.Index, .slice a544 x538.length cap545]) (a := (({ Term := x511.Term, Index := x511.Index, Data := x538 } : GRec) : GRec)) (GRec.toR (x := ({ Term := x511.Term, Index := x511.Index, Data := x538 } : GRec)) h567) RA.nil) rfl (fun H573 hS574 hO575 hk576 => ?_)
 have ho577 := (hk576 _ (by have := lt529; omega)).trans ho559
 have h578 := OW.keep (n' := (n539 + 1)) h570 (by omega) (fun i hi => hk576 i (OW.id_lt h570 hi).2)
 have h579 := OW.keep (n' := (n539 + 1)) h571 (by omega) (fun i hi => hk576 i (OW.id_lt h571 hi).2)
 have h580 := OW.lower (lo' := n0) hO575 (by omega)
 have hlon5391 := hS574.lo
 obtain ⟨hc585, hr⟩ := chk_some hr
 refine GL.append (α := GRec) hS574 .nil rfl rfl rfl Try.underlying28 Try.underlying28 rfl info35 rfl rfl rfl (by decide) rfl rfl h578 (by omega) (by omega) (OW.src h580) hc585 (fun a586 cap587 n588 H589 hS590 hn591 hO592 hk593 hid594 => ?_)
 have ho595 := (hk593 _ (by have := lt529; omega) (Ap.alloc (OW.hb h413))).trans ho577
 have h596 := OW.keep h579 hn591 (fun i hi => hk593 i (OW.id_lt h579 hi).2 (fun hj => (Ap.sym ap417) _ hj hi))
 have h597 := OW.keep h580 hn591 (fun i hi => hk593 i (OW.id_lt h580 hi).2 (fun hj => (Ap.sym (Ap.fresh (OW.lb hO575) (OW.hb h570))) _ hj hi))
 have hlon588 := hS590.lo
 refine WL.assign .nil rfl rfl rfl rfl ?_
 refine WL.nil ?_
 with_reducible refine Ex.blk_norm ?_
 refine Ex.thn_norm ?_
 with_reducible refine W.region ?_
 obtain ⟨hc602, hr⟩ := chk_some hr
 refine WL.addI .nil rfl rfl rfl rfl rfl hc602.1 hc602.2 ?_
 refine WL.move .nil rfl rfl rfl rfl ?_
 refine WL.nil ?_
 refine Ex.thn_norm ?_
 exact ⟨[(3, .slice a586 (xs412 ++ ([({ Term := x511.Term, Index := x511.Index, Data := x538 } : GRec)] : List GRec)).length cap587), (7, .slice a2 xs1.length cap3), (8, .int .i64 (xs1.length : Int)), (9, .int .i64 (x416 + 1))], (Fr.le_cons rfl (Fr.le_cons rfl (Fr.le_cons rfl (Fr.le_cons rfl Fr.le_nil)))), a586, cap587, (xs412 ++ ([({ Term := x511.Term, Index := x511.Index, Data := x538 } : GRec)] : List GRec)), (x416 + 1), F564, rfl, hS590, (hE572.up (by omega)), hO592, h596, (Ap.sym (Ap.new hid594 (OW.hb h579) (Ap.sym ap417))), hr⟩
 }
 {
 replace hr := ite_neg hr hc419
 with_reducible refine W.exit ?_
 with_reducible refine Ex.thn_ex ?_
 with_reducible refine Ex.thn_ex ?_
 with_reducible refine Ex.blk_here ?_
 refine Ex.thn_norm ?_
 with_reducible refine W.seq ?_
 with_reducible refine W.region ?_
 refine WL.move .nil rfl rfl rfl rfl ?_
 refine WL.assign .nil rfl rfl rfl rfl ?_
 refine WL.nil ?_
 refine Ex.thn_norm ?_
 with_reducible refine W.ret ?_
 obtain rfl := Option.some.inj hr
 exact ⟨.inr rfl, _, (.cons (.tmp rfl) .nil), ⟨F407, a410, cap411, (hE409.up (by omega)), hS408, rfl, h413⟩⟩
 }
 }
theorem f__impl_Msg_copied_own0_k {Δ : Prims} (g : Env Try.prog Δ) {lo n0 : Nat} {H0 F0 : Heap} (hS : St lo n0 H0 F0) {x1 : GMsg} {lw0 : Nat} {a2 : Option Addr} {cap3 : Nat} (h4 : OW lw0 n0 H0 F0 (.slice a2 x1.Log.length cap3) x1.Log) {res : (GMsg)} (hr : f__impl_Msg_copied_own0 x1 = some res) :
    C Try.prog Δ n0 64 [.agg [.int .i64 x1.Kind, .int .i64 x1.From, .int .i64 x1.To, .int .i64 x1.Term, .int .i64 x1.A, .int .i64 x1.B, .int .i64 x1.C, .bool x1.Ok, .slice a2 x1.Log.length cap3].toArray] n0 H0 (fun v n H => ∃ (F : Heap) (ra1 : Option Addr) (rcap2 : Nat), Ext n0 F0 n F ∧ St n0 n H F ∧ v = .agg [.int .i64 res.Kind, .int .i64 res.From, .int .i64 res.To, .int .i64 res.Term, .int .i64 res.A, .int .i64 res.B, .int .i64 res.C, .bool res.Ok, .slice ra1 res.Log.length rcap2].toArray ∧ SR F (.slice ra1 res.Log.length rcap2) res.Log) := by
 refine C.body Try.func64 rfl rfl ?_
 unfold f__impl_Msg_copied_own0 at hr
 have hS0 : St n0 n0 H0 F0 := hS.low (Nat.le_refl _)
 have hE0 := Ext.refl n0 F0
 have hlo0 := hS0.lo
 with_reducible refine W.seq ?_
 with_reducible refine W.region ?_
 refine GL.box hS0 .nil (vc := [.int .i64 x1.Kind, .int .i64 x1.From, .int .i64 x1.To, .int .i64 x1.Term, .int .i64 x1.A, .int .i64 x1.B, .int .i64 x1.C, .bool x1.Ok, .slice a2 x1.Log.length cap3]) rfl rfl rfl rfl rfl (by repeat' (first | exact List.forall_mem_nil _ | refine List.forall_mem_cons.2 ⟨?_, ?_⟩ | rfl)) (fun H6 hS7 ho8 hk9 => ?_)
 have fo10 := hS0.fnone (Nat.le_refl _)
 have h12 := OW.keep (n' := (n0 + 1)) h4 (by omega) (fun i hi => hk9 i (OW.id_lt h4 hi).2)
 have hlon01 := hS7.lo
 have lt11 : n0 < (n0 + 1) := by omega
 refine GL.alloc hS7 .nil (zc := [.int .i64 0, .int .i64 0, .int .i64 0, .int .i64 0, .int .i64 0, .int .i64 0, .int .i64 0, .bool false, .slice none 0 0]) rfl rfl rfl info85 rfl rfl rfl (fun H13 hS14 ho15 hk16 => ?_)
 have fo17 := hS7.fnone (Nat.le_refl _)
 have ho19 := (hk16 _ (by have := lt11; omega)).trans ho8
 have h20 := OW.keep (n' := ((n0 + 1) + 1)) h12 (by omega) (fun i hi => hk16 i (OW.id_lt h12 hi).2)
 have hlon011 := hS14.lo
 have lt18 : (n0 + 1) < ((n0 + 1) + 1) := by omega
 refine WL.nil ?_
 refine Ex.thn_norm ?_
 with_reducible refine W.seq ?_
 with_reducible refine W.region ?_
 refine WL.fieldAddr .nil rfl rfl rfl Try.underlying85 rfl info28 rfl rfl ?_
 refine WL.load1 .nil rfl rfl rfl Try.underlying28 rfl rfl ho19 rfl ?_
 obtain ⟨x21, hx21, hr⟩ := bnd_some hr
 refine GL.callP g.good .nil rfl rfl rfl rfl rfl rfl Try.func61 rfl rfl hS14.lo (f_impl_copyRecs_own0_k  g hS14 h20 hx21) (fun v n22 H23 hn24 hk25 hp26 => ?_)
 obtain ⟨F31, a27, cap28, hX32, hS30, rfl, h29⟩ := hp26
 have ho33 := (hk25 _ (by have := lt11; omega)).trans ho19
 have ho34 := (hk25 _ (by have := lt18; omega)).trans ho15
 have h35 := OW.keep (n' := n22) h20 (by omega) (fun i hi => hk25 i (OW.id_lt h20 hi).2)
 have hS36 : St n0 n22 H23 F31 := ⟨by have := hS14.lo; omega, hS30.hb, hS30.fh⟩
 have fo37 := (hX32.eq _ (by have := lt11; omega)).trans fo10
 have fo38 := (hX32.eq _ (by have := lt18; omega)).trans fo17
 have h39 := OW.keepF h35 hX32.sub (fun i hi => (hX32.eq i (by have := OW.id_lt h20 hi; omega)).trans (OW.fnone h35 hi))
 have hE40 := (hE0.up (n' := ((n0 + 1) + 1)) (by omega)).trans hX32
 have hlon22 := hS36.lo
 have h41 := OW.lower (lo' := n0) h29 (by omega)
 refine WL.fieldAddr .nil rfl rfl rfl Try.underlying85 rfl info28 rfl rfl ?_
 refine GL.store hS36 .nil (vc := [.slice a27 x21.length cap28]) (c' := [.int .i64 x1.Kind, .int .i64 x1.From, .int .i64 x1.To, .int .i64 x1.Term, .int .i64 x1.A, .int .i64 x1.B, .int .i64 x1.C, .bool x1.Ok, .slice a27 x21.length cap28]) rfl rfl rfl info28 rfl rfl rfl rfl ho33 fo37 (Nat.le_of_ble_eq_true rfl) (by omega) (one1 rfl) rfl (fun H46 hS47 ho48 hk49 => ?_)
 have ho50 := (hk49 _ (by omega)).trans ho34
 have h51 := OW.keep h39 (Nat.le_refl _) (fun i hi => hk49 i (fun hj => (Ap.alloc (OW.hb h4)) (hj ▸ hi)))
 have h52 := OW.keep h41 (Nat.le_refl _) (fun i hi => hk49 i (fun hj => (Ap.fresh0 (OW.lb h29) (by have := lt11; omega)) (hj ▸ hi)))
 refine WL.nil ?_
 refine Ex.thn_norm ?_
 with_reducible refine W.seq ?_
 with_reducible refine W.region ?_
 refine WL.loadN .nil (l' := [.int .i64 x1.Kind, .int .i64 x1.From, .int .i64 x1.To, .int .i64 x1.Term, .int .i64 x1.A, .int .i64 x1.B, .int .i64 x1.C, .bool x1.Ok, .slice a27 x21.length cap28]) rfl rfl rfl Try.underlying85 rfl info85 rfl ho48 rfl rfl ?_
 refine GL.store hS47 .nil (vc := [.int .i64 x1.Kind, .int .i64 x1.From, .int .i64 x1.To, .int .i64 x1.Term, .int .i64 x1.A, .int .i64 x1.B, .int .i64 x1.C, .bool x1.Ok, .slice a27 x21.length cap28]) (c' := [.int .i64 x1.Kind, .int .i64 x1.From, .int .i64 x1.To, .int .i64 x1.Term, .int .i64 x1.A, .int .i64 x1.B, .int .i64 x1.C, .bool x1.Ok, .slice a27 x21.length cap28]) rfl rfl rfl info85 rfl rfl rfl rfl ho50 fo38 (Nat.le_of_ble_eq_true rfl) (by omega) (by repeat' (first | exact List.forall_mem_nil _ | refine List.forall_mem_cons.2 ⟨?_, ?_⟩ | rfl)) rfl (fun H53 hS54 ho55 hk56 => ?_)
 have ho57 := (hk56 _ (by omega)).trans ho48
 have h58 := OW.keep h51 (Nat.le_refl _) (fun i hi => hk56 i (fun hj => (Ap.alloc (OW.hb h12)) (hj ▸ hi)))
 have h59 := OW.keep h52 (Nat.le_refl _) (fun i hi => hk56 i (fun hj => (Ap.fresh0 (OW.lb h29) (by have := lt18; omega)) (hj ▸ hi)))
 refine WL.nil ?_
 refine Ex.thn_norm ?_
 with_reducible refine W.ret ?_
 obtain ⟨F60, hS61, hle62, h63, hf64⟩ := OW.freeze h59 hS54
 have fo65 := (hf64 _ (Ap.fresh0 (OW.lb h29) (by have := lt11; omega))).trans fo37
 have fo66 := (hf64 _ (Ap.fresh0 (OW.lb h29) (by have := lt18; omega))).trans fo38
 have h67 := OW.keepF h58 hle62 (fun i hi => (hf64 i (fun hj => (Ap.fresh (OW.lb h29) (OW.hb h20)) i hj hi)).trans (OW.fnone h58 hi))
 have hE68 : Ext n0 F0 n22 F60 := ⟨Nat.le_trans hE40.le (by omega), hE40.sub.trans hle62, fun i hi => (hf64 i (fun hj => by have := OW.id_lt h59 hj; omega)).trans (hE40.eq i hi)⟩
 obtain rfl := Option.some.inj hr
 exact ⟨.inr rfl, _, (.cons (.cellN (l := [.int .i64 x1.Kind, .int .i64 x1.From, .int .i64 x1.To, .int .i64 x1.Term, .int .i64 x1.A, .int .i64 x1.B, .int .i64 x1.C, .bool x1.Ok, .slice a27 x21.length cap28]) rfl Try.underlying85 rfl info85 ho55 rfl rfl) .nil), ⟨F60, a27, cap28, (hE68.up (by omega)), hS61, rfl, h63⟩⟩
theorem f_impl_Cluster_records_k {Δ : Prims} (g : Env Try.prog Δ) {lo n0 : Nat} {H0 F0 : Heap} (hS : St lo n0 H0 F0) {p0 : Nat} {x1 : GCluster} {ez0 : Nat} {a2 : Option Addr} {cap3 : Nat} {S6 : Nat → Prop} {a7 : Option Addr} {cap8 : Nat} {a11 : Option Addr} {cap12 : Nat} {x18 : Int} {x19 : Int} (ho15 : H0 p0 = some (.row ez0 [.slice a2 x1.Peers.length cap3, .slice a7 x1.Net.length cap8, .slice a11 x1.Chosen.length cap12, .bool x1.Conflict])) (fo16 : F0 p0 = none) (lo17 : lo ≤ p0) (h4 : OD lo n0 H0 F0 S6 [] (.slice a2 x1.Peers.length cap3) x1.Peers) (h9 : OW lo n0 H0 F0 (.slice a7 x1.Net.length cap8) x1.Net) (h13 : OW lo n0 H0 F0 (.slice a11 x1.Chosen.length cap12) x1.Chosen) (ap20 : ¬ S6 p0) (ap21 : idOf (.slice a7 x1.Net.length cap8) ≠ some p0) (ap22 : ∀ b, idOf (.slice a7 x1.Net.length cap8) = some b → ¬ S6 b) (ap23 : idOf (.slice a11 x1.Chosen.length cap12) ≠ some p0) (ap24 : ∀ b, idOf (.slice a11 x1.Chosen.length cap12) = some b → ¬ S6 b) (ap25 : ∀ b, idOf (.slice a11 x1.Chosen.length cap12) = some b → idOf (.slice a7 x1.Net.length cap8) ≠ some b) {res : (GCluster)} (hr : f_impl_Cluster_records x1 x18 x19 = some res) :
    C Try.prog Δ lo 89 [.pointer (some ⟨p0, 0, none⟩), .int .i64 x18, .int .i64 x19] n0 H0 (fun v n H => ∃ (F : Heap) (rS2 : Nat → Prop) (ra4 : Option Addr) (rcap5 : Nat) (ra7 : Option Addr) (rcap8 : Nat), Ext n0 F0 n F ∧ St lo n H F ∧ H p0 = some (.row ez0 [.slice a2 x1.Peers.length cap3, .slice ra4 res.Net.length rcap5, .slice ra7 res.Chosen.length rcap8, .bool res.Conflict]) ∧ v = .tuple #[] ∧ OD lo n H F rS2 [] (.slice a2 x1.Peers.length cap3) res.Peers ∧ x1.Peers.length = res.Peers.length ∧ OW lo n H F (.slice ra4 res.Net.length rcap5) res.Net ∧ OW lo n H F (.slice ra7 res.Chosen.length rcap8) res.Chosen ∧ ¬ rS2 p0 ∧ idOf (.slice ra4 res.Net.length rcap5) ≠ some p0 ∧ idOf (.slice ra7 res.Chosen.length rcap8) ≠ some p0 ∧ (∀ b, idOf (.slice ra4 res.Net.length rcap5) = some b → ¬ rS2 b) ∧ (∀ b, idOf (.slice ra7 res.Chosen.length rcap8) = some b → ¬ rS2 b) ∧ (∀ b, idOf (.slice ra7 res.Chosen.length rcap8) = some b → idOf (.slice ra4 res.Net.length rcap5) ≠ some b)) := by
 refine C.body Try.func89 rfl rfl ?_
 unfold f_impl_Cluster_records at hr
 have hS0 : St lo n0 H0 F0 := hS
 have hE0 := Ext.refl n0 F0
 have hlo0 := hS0.lo
 have lt0 := hS0.lt ho15
 with_reducible refine W.seq ?_
 with_reducible refine W.region ?_
 refine WL.move .nil rfl rfl rfl rfl ?_
 refine WL.nilCheck .nil rfl rfl rfl rfl ?_
 refine WL.fieldAddr .nil rfl rfl rfl Try.underlying30 rfl info26 rfl rfl ?_
 refine WL.load1 .nil rfl rfl rfl Try.underlying26 rfl rfl ho15 rfl ?_
 refine WL.move .nil rfl rfl rfl rfl ?_
 obtain ⟨x26, hx26, hr⟩ := bnd_some hr
 refine GL.indexD .nil rfl rfl rfl Try.underlying26 info42 rfl rfl h4 rfl hx26 (fun b27 el28 hp29 => ?_)
 refine WL.assign .nil rfl rfl rfl rfl ?_
 refine WL.nil ?_
 refine Ex.thn_norm ?_
 with_reducible refine W.seq ?_
 with_reducible refine W.region ?_
 refine WL.move .nil rfl rfl rfl rfl ?_
 refine WL.nilCheck .nil rfl rfl rfl rfl ?_
 refine WL.fieldAddr .nil rfl rfl rfl Try.underlying42 rfl info31 rfl rfl ?_
 obtain ⟨c30, ecs31, hrow32, hwin33, hb34⟩ := OD.get h4 hp29 hx26
 obtain ⟨a35, cap36, a37, cap38, a39, cap40, a41, cap42, rfl⟩ := GPeer.ofB hb34
 obtain ⟨S43, hs44, hs45, hs46, h47, h48⟩ := GPeer.open_Next h4 hp29 hx26 hrow32 hwin33 (List.forall_mem_nil _)
 refine WL.load1 .nil rfl rfl rfl Try.underlying31 rfl rfl hrow32 ((win_get (m := 7) hwin33 (show (7 : Nat) < 9 by decide)).trans rfl) ?_
 refine WL.move .nil rfl rfl rfl rfl ?_
 obtain ⟨x50, hx50, hr⟩ := bnd_some hr
 refine GL.indexO .nil rfl rfl rfl Try.underlying31 info3 rfl rfl h47 rfl hx50 (fun b51 kp52 c53 ecs54 hid58 hrow55 hwin56 hR57 hup59 => ?_)
 have hcs : _ = ([.int .i64 x50] : List Value) := hR57
 subst hcs
 refine WL.load1 .nil rfl rfl rfl Try.underlying3 rfl rfl hrow55 ((win_get0 hwin56 (show (0 : Nat) < 1 by decide)).trans rfl) ?_
 obtain ⟨hc60, hr⟩ := chk_some hr
 refine WL.subI .nil rfl rfl rfl rfl rfl hc60.1 hc60.2 ?_
 refine WL.assign .nil rfl rfl rfl rfl ?_
 refine WL.nil ?_
 refine Ex.thn_norm ?_
 refine W.regionD [0, 1, 2, 3, 4, 5, 6, 7, 8, 9, 10, 11, 12, 13, 14, 15, 16, 17, 18, 19, 20, 21, 22] [false, false, false, false, false, false, false, false, false, false, false, false, false, false, false, false, false, false, false, false, false, false, true] rfl rfl (by kernel_rfl) (by kernel_rfl) (by (conv => lhs; simp only [List.map_cons, List.map_nil, List.getD_cons_zero, List.getD_cons_succ]) <;> rfl) ?_
 refine WL.move .r rfl rfl rfl rfl ?_
 refine WL.move .r rfl rfl rfl rfl ?_
 refine WL.move .r rfl rfl rfl rfl ?_
 refine WL.move .r rfl rfl rfl rfl ?_
 refine WL.nilCheck .r rfl rfl rfl rfl ?_
 refine WL.fieldAddr .r rfl rfl rfl Try.underlying42 rfl info3 rfl rfl ?_
 refine WL.load1 .r rfl rfl rfl Try.underlying3 rfl rfl hrow32 ((win_get (m := 1) hwin33 (show (1 : Nat) < 9 by decide)).trans rfl) ?_
 refine WL.move .r rfl rfl rfl rfl ?_
 refine WL.move .r rfl rfl rfl rfl ?_
 refine WL.move .r rfl rfl rfl rfl ?_
 obtain ⟨S61, hs62, hs63, hs64, h65, h66⟩ := GPeer.open_Log h48 hp29 hx26 hrow32 hwin33 (List.forall_mem_cons.2 ⟨fun h => absurd (show (7 : Nat) = 5 from h.2) (by decide), List.forall_mem_nil _⟩)
 obtain ⟨x68, hx68, hr⟩ := bnd_some hr
 refine GL.callP g.good .r rfl rfl rfl rfl rfl rfl Try.func94 rfl rfl (Nat.le_refl _) (f_impl_Peer_term_elem0_k  g hS0 hrow32 hwin33 h65 hx68) (fun v n69 H70 hn71 hk72 hp73 => ?_)
 obtain ⟨hS74, rfl⟩ := hp73
 have ho75 := (hk72 _ (by have := lt0; omega)).trans ho15
 have h76 := OD.keep (n' := n69) h66 (by omega) (fun i hi => hk72 i (OD.id_lt h66 hi).2)
 have h77 := OW.keep (n' := n69) h9 (by omega) (fun i hi => hk72 i (OW.id_lt h9 hi).2)
 have h78 := OW.keep (n' := n69) h13 (by omega) (fun i hi => hk72 i (OW.id_lt h13 hi).2)
 have h79 := OW.keep (n' := n69) h47 (by omega) (fun i hi => hk72 i (OW.id_lt h47 hi).2)
 have h80 := OW.keep (n' := n69) h65 (by omega) (fun i hi => hk72 i (OW.id_lt h65 hi).2)
 have hS81 : St lo n69 H70 F0 := ⟨by have := hS0.lo; omega, hS74.hb, hS74.fh⟩
 have hlon69 := hS81.lo
 refine WL.move .r rfl rfl rfl rfl ?_
 refine WL.nilCheck .r rfl rfl rfl rfl ?_
 refine WL.fieldAddr .r rfl rfl rfl Try.underlying42 rfl info3 rfl rfl ?_
 obtain ⟨c82, ecs83, hrow84, hwin85, hb86⟩ := OD.get h76 hp29 hx26
 obtain ⟨a87, cap88, a89, cap90, a91, cap92, a93, cap94, rfl⟩ := GPeer.ofB hb86
 have hq95 := OD.hole h76 hp29 hx26 hrow84 hwin85
 obtain ⟨rfl, rfl⟩ := hdr_eq (a := a87) (c := cap88) hq95
 have hq96 := OD.hole (OD.swap h76) hp29 hx26 hrow84 hwin85
 obtain ⟨rfl, rfl⟩ := hdr_eq (a := a91) (c := cap92) hq96
 refine WL.load1 .r rfl rfl rfl Try.underlying3 rfl rfl hrow84 ((win_get (m := 3) hwin85 (show (3 : Nat) < 9 by decide)).trans rfl) ?_
 refine WL.move .r rfl rfl rfl rfl ?_
 refine WL.nilCheck .r rfl rfl rfl rfl ?_
 refine WL.fieldAddr .r rfl rfl rfl Try.underlying42 rfl info28 rfl rfl ?_
 refine WL.load1 .r rfl rfl rfl Try.underlying28 rfl rfl hrow84 ((win_get (m := 5) hwin85 (show (5 : Nat) < 9 by decide)).trans rfl) ?_
 refine WL.move .r rfl rfl rfl rfl ?_
 obtain ⟨xs97, hxs97, hr⟩ := bnd_some hr
 refine GL.sliceO .r rfl rfl rfl Try.underlying28 info35 rfl rfl h80 ⟨_, rfl⟩ rfl hxs97 (fun a98 cap99 hid100 h101 => ?_)
 refine WL.buildL .r (cells := [.int .i64 3, .int .i64 x18, .int .i64 x19, .int .i64 x26.Term, .int .i64 (x50 - 1), .int .i64 x68, .int .i64 x26.Commit, .bool false, .slice a98 xs97.length cap99]) rfl rfl rfl Try.underlying85 info85 rfl rfl rfl (by simp only [List.mapM_cons, List.mapM_nil, info3, info3, info3, info3, info3, info3, info3, info4, info28]; rfl) rfl (by first | rfl | ((conv => lhs; simp [splice, fillL, cells_int, cells_bool, cells_string, cells_str, cells_slice, cells_ptr, cells_map, cells_func, cells_nilFunc, cells_nilIface, cells_iface, cells_agg, cells_u8]) <;> rfl)) ?_
 refine GL.callIn (args := [.pointer (some ⟨p0, 0, none⟩), .agg [.int .i64 3, .int .i64 x18, .int .i64 x19, .int .i64 x26.Term, .int .i64 (x50 - 1), .int .i64 x68, .int .i64 x26.Commit, .bool false, .slice a98 xs97.length cap99].toArray]) .w lo rfl rfl rfl rfl rfl rfl Try.func55 rfl rfl (Nat.le_refl _) hS81.lo ?_
 refine C.body Try.func55 rfl rfl ?_
 with_reducible refine W.seq ?_
 with_reducible refine W.region ?_
 refine GL.box hS81 .nil (vc := [.int .i64 3, .int .i64 x18, .int .i64 x19, .int .i64 x26.Term, .int .i64 (x50 - 1), .int .i64 x68, .int .i64 x26.Commit, .bool false, .slice a98 xs97.length cap99]) rfl rfl rfl rfl rfl (by repeat' (first | exact List.forall_mem_nil _ | refine List.forall_mem_cons.2 ⟨?_, ?_⟩ | rfl)) (fun H103 hS104 ho105 hk106 => ?_)
 have fo107 := hS81.fnone (Nat.le_refl _)
 have ho109 := (hk106 _ (by have := lt0; omega)).trans ho75
 have h110 := OD.keep (n' := (n69 + 1)) h76 (by omega) (fun i hi => hk106 i (OD.id_lt h76 hi).2)
 have h111 := OW.keep (n' := (n69 + 1)) h77 (by omega) (fun i hi => hk106 i (OW.id_lt h77 hi).2)
 have h112 := OW.keep (n' := (n69 + 1)) h78 (by omega) (fun i hi => hk106 i (OW.id_lt h78 hi).2)
 have h113 := OW.keep (n' := (n69 + 1)) h79 (by omega) (fun i hi => hk106 i (OW.id_lt h79 hi).2)
 have h114 := OW.keep (n' := (n69 + 1)) h80 (by omega) (fun i hi => hk106 i (OW.id_lt h80 hi).2)
 have h115 := OW.keep (n' := (n69 + 1)) h101 (by omega) (fun i hi => hk106 i (OW.id_lt h101 hi).2)
 have hlon691 := hS104.lo
 have lt108 : n69 < (n69 + 1) := by omega
 refine WL.nil ?_
 refine Ex.thn_norm ?_
 with_reducible refine W.seq ?_
 with_reducible refine W.region ?_
 refine WL.move .nil rfl rfl rfl rfl ?_
 refine WL.nilCheck .nil rfl rfl rfl rfl ?_
 refine WL.fieldAddr .nil rfl rfl rfl Try.underlying30 rfl info27 rfl rfl ?_
 refine WL.load1 .nil rfl rfl rfl Try.underlying27 rfl rfl ho109 rfl ?_
 refine WL.len .nil rfl rfl rfl Try.underlying27 rfl ?_
 refine WL.bin .nil rfl rfl rfl rfl rfl rfl ?_
 refine WL.nil ?_
 refine Ex.thn_norm ?_
 refine W.condD rfl (fun hc116 => ?_) (fun hc116 => ?_)
 {
 replace hr := ite_pos hr hc116
 refine W.regionI (fun H => True) [0, 1, 2, 3, 4, 5, 6, 7, 8, 9, 10, 11] [(false, true, false), (false, false, false), (false, false, false), (false, false, false), (false, false, false), (false, false, false), (false, false, false), (false, false, false), (true, false, false), (false, false, false), (false, false, false), (true, false, true)] false rfl (by kernel_rfl) (by kernel_rfl) (by (conv => lhs; simp only [List.map_cons, List.map_nil, List.getD_cons_zero, List.getD_cons_succ]) <;> rfl) ?_
 refine WLI.late (v := .pointer (some ⟨p0, 0, none⟩)) (fun h => by cases h) rfl rfl (fun H2 hI2 => .move (.inl rfl) rfl) ?_
 refine WLI.op (fun h => by cases h) ?_
 refine WL.move .r rfl rfl rfl rfl ?_
 with_reducible refine WL.nil ⟨rfl, ?_⟩
 refine WLI.op (fun h => by cases h) ?_
 refine WL.nilCheck .r rfl rfl rfl rfl ?_
 with_reducible refine WL.nil ⟨rfl, ?_⟩
 refine WLI.op (fun h => by cases h) ?_
 refine WL.fieldAddr .r rfl rfl rfl Try.underlying30 rfl info27 rfl rfl ?_
 with_reducible refine WL.nil ⟨rfl, ?_⟩
 refine WLI.op (fun h => by cases h) ?_
 refine WL.load1 .r rfl rfl rfl Try.underlying27 rfl rfl ho109 rfl ?_
 with_reducible refine WL.nil ⟨rfl, ?_⟩
 refine WLI.op (fun h => by cases h) ?_
 refine WL.loadN .r (l' := [.int .i64 3, .int .i64 x18, .int .i64 x19, .int .i64 x26.Term, .int .i64 (x50 - 1), .int .i64 x68, .int .i64 x26.Commit, .bool false, .slice a98 xs97.length cap99]) rfl rfl rfl Try.underlying85 rfl info85 rfl ho105 rfl rfl ?_
 with_reducible refine WL.nil ⟨rfl, ?_⟩
 refine WLI.op (fun h => by cases h) ?_
 obtain ⟨x118, hx118, hr⟩ := bnd_some hr
 refine GL.callP g.good .r rfl rfl rfl rfl rfl rfl Try.func64 rfl rfl (Nat.le_refl _) (f__impl_Msg_copied_own0_k (x1 := ({ Kind := 3, From := x18, To := x19, Term := x26.Term, A := (x50 - 1), B := x68, C := x26.Commit, Ok := false, Log := xs97 } : GMsg)) g hS104 h115 hx118) (fun v n119 H120 hn121 hk122 hp123 => ?_)
 obtain ⟨F128, a124, cap125, hX129, hS127, rfl, h126⟩ := hp123
 have ho130 := (hk122 _ (by have := lt0; omega)).trans ho109
 have ho131 := (hk122 _ (by have := lt108; omega)).trans ho105
 have h132 := OD.keep (n' := n119) h110 (by omega) (fun i hi => hk122 i (OD.id_lt h110 hi).2)
 have h133 := OW.keep (n' := n119) h111 (by omega) (fun i hi => hk122 i (OW.id_lt h111 hi).2)
 have h134 := OW.keep (n' := n119) h112 (by omega) (fun i hi => hk122 i (OW.id_lt h112 hi).2)
 have h135 := OW.keep (n' := n119) h113 (by omega) (fun i hi => hk122 i (OW.id_lt h113 hi).2)
 have h136 := OW.keep (n' := n119) h114 (by omega) (fun i hi => hk122 i (OW.id_lt h114 hi).2)
 have h137 := OW.keep (n' := n119) h115 (by omega) (fun i hi => hk122 i (OW.id_lt h115 hi).2)
 have hS138 : St lo n119 H120 F128 := ⟨by have := hS104.lo; omega, hS127.hb, hS127.fh⟩
 have fo139 := (hX129.eq _ (by have := lt0; omega)).trans fo16
 have fo140 := (hX129.eq _ (by have := lt108; omega)).trans fo107
 have h141 := OD.keepF h132 hX129.sub (fun i hi => (hX129.eq i (by have := OD.id_lt h110 hi; omega)).trans (OD.fnone h132 hi))
 have h142 := OW.keepF h133 hX129.sub (fun i hi => (hX129.eq i (by have := OW.id_lt h111 hi; omega)).trans (OW.fnone h133 hi))
 have h143 := OW.keepF h134 hX129.sub (fun i hi => (hX129.eq i (by have := OW.id_lt h112 hi; omega)).trans (OW.fnone h134 hi))
 have h144 := OW.keepF h135 hX129.sub (fun i hi => (hX129.eq i (by have := OW.id_lt h113 hi; omega)).trans (OW.fnone h135 hi))
 have h145 := OW.keepF h136 hX129.sub (fun i hi => (hX129.eq i (by have := OW.id_lt h114 hi; omega)).trans (OW.fnone h136 hi))
 have h146 := OW.keepF h137 hX129.sub (fun i hi => (hX129.eq i (by have := OW.id_lt h115 hi; omega)).trans (OW.fnone h137 hi))
 have hE147 := (hE0.up (n' := (n69 + 1)) (by omega)).trans hX129
 have hlon119 := hS138.lo
 with_reducible refine WL.nil ⟨rfl, ?_⟩
 refine WLI.op (fun h => by cases h) ?_
 refine GL.lit (cs := [.int .i64 x118.Kind, .int .i64 x118.From, .int .i64 x118.To, .int .i64 x118.Term, .int .i64 x118.A, .int .i64 x118.B, .int .i64 x118.C, .bool x118.Ok, .slice a124 x118.Log.length cap125]) (xs := ([({ Kind := x118.Kind, From := x118.From, To := x118.To, Term := x118.Term, A := x118.A, B := x118.B, C := x118.C, Ok := x118.Ok, Log := x118.Log } : GMsg)] : List GMsg)) hS138 .r rfl rfl rfl Try.underlying27 info85 rfl rfl rfl (by decide) (by decide) rfl rfl rfl rfl rfl (RA.cons (cs := [.int .i64 x118.Kind, .int .i64 x118.From, .int .i64 x118.To, .int .i64 x118.Term, .int .i64 x118.A, .int .i64 x118.B, .int .i64 x118.C, .bool x118.Ok, .slice a124 x118.Log.length cap125]) (a := (({ Kind := x118.Kind, From := x118.From, To := x118.To, Term := x118.Term, A := x118.A, B := x118.B, C := x118.C, Ok := x118.Ok, Log := x118.Log } : GMsg) : GMsg)) (GMsg.toR (x := ({ Kind := x118.Kind, From := x118.From, To := x118.To, Term := x118.Term, A := x118.A, B := x118.B, C := x118.C, Ok := x118.Ok, Log := x118.Log } : GMsg)) h126) RA.nil) rfl (fun H148 hS149 hO150 hk151 => ?_)
 have ho152 := (hk151 _ (by have := lt0; omega)).trans ho130
 have ho153 := (hk151 _ (by have := lt108; omega)).trans ho131
 have h154 := OD.keep (n' := (n119 + 1)) h141 (by omega) (fun i hi => hk151 i (OD.id_lt h141 hi).2)
 have h155 := OW.keep (n' := (n119 + 1)) h142 (by omega) (fun i hi => hk151 i (OW.id_lt h142 hi).2)
 have h156 := OW.keep (n' := (n119 + 1)) h143 (by omega) (fun i hi => hk151 i (OW.id_lt h143 hi).2)
 have h157 := OW.keep (n' := (n119 + 1)) h144 (by omega) (fun i hi => hk151 i (OW.id_lt h144 hi).2)
 have h158 := OW.keep (n' := (n119 + 1)) h145 (by omega) (fun i hi => hk151 i (OW.id_lt h145 hi).2)
 have h159 := OW.keep (n' := (n119 + 1)) h146 (by omega) (fun i hi => hk151 i (OW.id_lt h146 hi).2)
 have h160 := OW.lower (lo' := n0) hO150 (by omega)
 have hlon1191 := hS149.lo
 with_reducible refine WL.nil ⟨rfl, ?_⟩
 refine WLI.op (fun h => by cases h) ?_
 obtain ⟨hc170, hr⟩ := chk_some hr
 refine GL.append (α := GMsg) hS149 .w rfl rfl rfl Try.underlying27 Try.underlying27 rfl info85 rfl rfl rfl (by decide) rfl rfl h155 (by omega) (by omega) (OW.src h160) hc170 (fun a171 cap172 n173 H174 hS175 hn176 hO177 hk178 hid179 => ?_)
 have ho180 := (hk178 _ (by have := lt0; omega) ap21).trans ho152
 have ho181 := (hk178 _ (by have := lt108; omega) (Ap.alloc (OW.hb h77))).trans ho153
 have h182 := OD.keep h154 hn176 (fun i hi => hk178 i (OD.id_lt h154 hi).2 (fun hj => (Ap.sym (Ap.sub hs62 (Ap.sub hs44 (Ap.sym ap22)))) _ hj hi))
 have h183 := OW.keep h156 hn176 (fun i hi => hk178 i (OW.id_lt h156 hi).2 (fun hj => (Ap.sym ap25) _ hj hi))
 have h184 := OW.keep h157 hn176 (fun i hi => hk178 i (OW.id_lt h157 hi).2 (fun hj => (Ap.sym (Ap.sub hs45 (Ap.sym ap22))) _ hj hi))
 have h185 := OW.keep h158 hn176 (fun i hi => hk178 i (OW.id_lt h158 hi).2 (fun hj => (Ap.sym (Ap.sub hs63 (Ap.sub hs44 (Ap.sym ap22)))) _ hj hi))
 have h186 := OW.keep h159 hn176 (fun i hi => hk178 i (OW.id_lt h159 hi).2 (fun hj => (Ap.sym (Ap.sub hid100 (Ap.sub hs63 (Ap.sub hs44 (Ap.sym ap22))))) _ hj hi))
 have h187 := OW.keep h160 hn176 (fun i hi => hk178 i (OW.id_lt h160 hi).2 (fun hj => (Ap.sym (Ap.fresh (OW.lb hO150) (OW.hb h142))) _ hj hi))
 have hlon173 := hS175.lo
 with_reducible refine WL.nil ⟨rfl, ?_⟩
 refine WLI.op (fun h => by cases h) ?_
 refine WL.nilCheck .r rfl rfl rfl rfl ?_
 with_reducible refine WL.nil ⟨rfl, ?_⟩
 refine WLI.op (fun h => by cases h) ?_
 refine WL.fieldAddr .r rfl rfl rfl Try.underlying30 rfl info27 rfl rfl ?_
 with_reducible refine WL.nil ⟨rfl, ?_⟩
 refine WLI.op (fun _ => trivial) ?_
 refine GL.store hS175 .w (vc := [.slice a171 (x1.Net ++ ([({ Kind := x118.Kind, From := x118.From, To := x118.To, Term := x118.Term, A := x118.A, B := x118.B, C := x118.C, Ok := x118.Ok, Log := x118.Log } : GMsg)] : List GMsg)).length cap172]) (c' := [.slice a2 x1.Peers.length cap3, .slice a171 (x1.Net ++ ([({ Kind := x118.Kind, From := x118.From, To := x118.To, Term := x118.Term, A := x118.A, B := x118.B, C := x118.C, Ok := x118.Ok, Log := x118.Log } : GMsg)] : List GMsg)).length cap172, .slice a11 x1.Chosen.length cap12, .bool x1.Conflict]) rfl rfl rfl info27 rfl rfl rfl rfl ho180 fo139 (Nat.le_of_ble_eq_true rfl) lo17 (one1 rfl) rfl (fun H197 hS198 ho199 hk200 => ?_)
 have ho201 := (hk200 _ (by omega)).trans ho181
 have h202 := OD.keep h182 (Nat.le_refl _) (fun i hi => hk200 i (fun hj => (Ap.sub0 hs62 (Ap.sub0 hs44 ap20)) (hj ▸ hi)))
 have h203 := OW.keep h183 (Nat.le_refl _) (fun i hi => hk200 i (fun hj => ap23 (hj ▸ hi)))
 have h204 := OW.keep h184 (Nat.le_refl _) (fun i hi => hk200 i (fun hj => (Ap.sub0 hs45 ap20) (hj ▸ hi)))
 have h205 := OW.keep h185 (Nat.le_refl _) (fun i hi => hk200 i (fun hj => (Ap.sub0 hs63 (Ap.sub0 hs44 ap20)) (hj ▸ hi)))
 have h206 := OW.keep h186 (Nat.le_refl _) (fun i hi => hk200 i (fun hj => (Ap.sub0 hid100 (Ap.sub0 hs63 (Ap.sub0 hs44 ap20))) (hj ▸ hi)))
 have h207 := OW.keep h187 (Nat.le_refl _) (fun i hi => hk200 i (fun hj => (Ap.fresh0 (OW.lb hO150) (by have := lt0; omega)) (hj ▸ hi)))
 have h208 := OW.keep hO177 (Nat.le_refl _) (fun i hi => hk200 i (fun hj => (Ap.new0 hid179 (by have := lt0; omega) ap21) (hj ▸ hi)))
 with_reducible refine WL.nil ⟨rfl, ?_⟩
 refine WLI.nil (fun h => by cases h) ?_
 refine ⟨.inl rfl, _, .nil, ?_⟩
 refine WL.nil ?_
 obtain ⟨S209, hs210, h211⟩ := GPeer.close0_Log h202 hx26 h205
 have ap212 : ∀ b, S209 b → idOf (.slice a171 (x1.Net ++ ([({ Kind := x118.Kind, From := x118.From, To := x118.To, Term := x118.Term, A := x118.A, B := x118.B, C := x118.C, Ok := x118.Ok, Log := x118.Log } : GMsg)] : List GMsg)).length cap172) ≠ some b := Ap.or hs210 (Ap.sym (Ap.new hid179 (OD.hb h154) (Ap.sym (Ap.sub hs62 (Ap.sub hs44 (Ap.sym ap22)))))) (Ap.sym (Ap.new hid179 (OW.hb h158) (Ap.sym (Ap.sub hs63 (Ap.sub hs44 (Ap.sym ap22))))))
 obtain ⟨S213, hs214, h215⟩ := GPeer.close0_Next h211 hx26 h204
 have ap216 : ¬ S213 p0 := Ap.or0 hs214 (Ap.or0 hs210 (Ap.sub0 hs62 (Ap.sub0 hs44 ap20)) (Ap.sub0 hs63 (Ap.sub0 hs44 ap20))) (Ap.sub0 hs45 ap20)
 have ap217 : ∀ b, S213 b → idOf (.slice a11 x1.Chosen.length cap12) ≠ some b := Ap.or hs214 (Ap.or hs210 (Ap.sub hs62 (Ap.sub hs44 (Ap.sym ap24))) (Ap.sub hs63 (Ap.sub hs44 (Ap.sym ap24)))) (Ap.sub hs45 (Ap.sym ap24))
 have ap218 : ∀ b, S213 b → idOf (.slice (some ⟨n119, 0, none⟩) ([({ Kind := x118.Kind, From := x118.From, To := x118.To, Term := x118.Term, A := x118.A, B := x118.B, C := x118.C, Ok := x118.Ok, Log := x118.Log } : GMsg)] : List GMsg).length 1) ≠ some b := Ap.or hs214 (Ap.or hs210 (Ap.sym (Ap.fresh (OW.lb hO150) (OD.hb h141))) (Ap.sym (Ap.fresh (OW.lb hO150) (OW.hb h145)))) (Ap.sym (Ap.fresh (OW.lb hO150) (OW.hb h144)))
 obtain rfl := Option.some.inj hr
 exact ⟨.inl rfl, _, .nil, ⟨F128, S213, a171, cap172, a11, cap12, (hE147.up (by omega)), hS198, ho199, rfl, h215, rfl, h208, h203, ap216, (Ap.new0 hid179 (by have := lt0; omega) ap21), ap23, (Ap.sym (Ap.or hs214 ap212 (Ap.sym (Ap.new hid179 (OW.hb h157) (Ap.sym (Ap.sub hs45 (Ap.sym ap22))))))), (Ap.sym ap217), (Ap.sym (Ap.new hid179 (OW.hb h156) (Ap.sym ap25)))⟩⟩
 }
 {
 replace hr := ite_neg hr hc116
 with_reducible refine W.skip ?_
 refine ⟨.inl rfl, _, .nil, ?_⟩
 refine WL.nil ?_
 obtain ⟨S219, hs220, h221⟩ := GPeer.close0_Log h110 hx26 h114
 obtain ⟨S222, hs223, h224⟩ := GPeer.close0_Next h221 hx26 h113
 have ap225 : ¬ S222 p0 := Ap.or0 hs223 (Ap.or0 hs220 (Ap.sub0 hs62 (Ap.sub0 hs44 ap20)) (Ap.sub0 hs63 (Ap.sub0 hs44 ap20))) (Ap.sub0 hs45 ap20)
 have ap226 : ∀ b, S222 b → idOf (.slice a7 x1.Net.length cap8) ≠ some b := Ap.or hs223 (Ap.or hs220 (Ap.sub hs62 (Ap.sub hs44 (Ap.sym ap22))) (Ap.sub hs63 (Ap.sub hs44 (Ap.sym ap22)))) (Ap.sub hs45 (Ap.sym ap22))
 have ap227 : ∀ b, S222 b → idOf (.slice a11 x1.Chosen.length cap12) ≠ some b := Ap.or hs223 (Ap.or hs220 (Ap.sub hs62 (Ap.sub hs44 (Ap.sym ap24))) (Ap.sub hs63 (Ap.sub hs44 (Ap.sym ap24)))) (Ap.sub hs45 (Ap.sym ap24))
 obtain rfl := Option.some.inj hr
 exact ⟨.inl rfl, _, .nil, ⟨F0, S222, a7, cap8, a11, cap12, (hE0.up (by omega)), hS104, ho109, rfl, h224, rfl, h111, h112, ap225, ap21, ap23, (Ap.sym ap226), (Ap.sym ap227), ap25⟩⟩
 }
theorem f_impl_Cluster_elect_k {Δ : Prims} (g : Env Try.prog Δ) {lo n0 : Nat} {H0 F0 : Heap} (hS : St lo n0 H0 F0) {p0 : Nat} {x1 : GCluster} {ez0 : Nat} {a2 : Option Addr} {cap3 : Nat} {S6 : Nat → Prop} {a7 : Option Addr} {cap8 : Nat} {a11 : Option Addr} {cap12 : Nat} {x18 : Int} (ho15 : H0 p0 = some (.row ez0 [.slice a2 x1.Peers.length cap3, .slice a7 x1.Net.length cap8, .slice a11 x1.Chosen.length cap12, .bool x1.Conflict])) (fo16 : F0 p0 = none) (lo17 : lo ≤ p0) (h4 : OD lo n0 H0 F0 S6 [] (.slice a2 x1.Peers.length cap3) x1.Peers) (h9 : OW lo n0 H0 F0 (.slice a7 x1.Net.length cap8) x1.Net) (h13 : OW lo n0 H0 F0 (.slice a11 x1.Chosen.length cap12) x1.Chosen) (ap19 : ¬ S6 p0) (ap20 : idOf (.slice a7 x1.Net.length cap8) ≠ some p0) (ap21 : ∀ b, idOf (.slice a7 x1.Net.length cap8) = some b → ¬ S6 b) (ap22 : idOf (.slice a11 x1.Chosen.length cap12) ≠ some p0) (ap23 : ∀ b, idOf (.slice a11 x1.Chosen.length cap12) = some b → ¬ S6 b) (ap24 : ∀ b, idOf (.slice a11 x1.Chosen.length cap12) = some b → idOf (.slice a7 x1.Net.length cap8) ≠ some b) {res : (GCluster)} (hr : f_impl_Cluster_elect x1 x18 = some res) :
    C Try.prog Δ lo 87 [.pointer (some ⟨p0, 0, none⟩), .int .i64 x18] n0 H0 (fun v n H => ∃ (F : Heap) (rS2 : Nat → Prop) (ra4 : Option Addr) (rcap5 : Nat) (ra7 : Option Addr) (rcap8 : Nat), Ext n0 F0 n F ∧ St lo n H F ∧ H p0 = some (.row ez0 [.slice a2 x1.Peers.length cap3, .slice ra4 res.Net.length rcap5, .slice ra7 res.Chosen.length rcap8, .bool res.Conflict]) ∧ v = .tuple #[] ∧ OD lo n H F rS2 [] (.slice a2 x1.Peers.length cap3) res.Peers ∧ x1.Peers.length = res.Peers.length ∧ OW lo n H F (.slice ra4 res.Net.length rcap5) res.Net ∧ OW lo n H F (.slice ra7 res.Chosen.length rcap8) res.Chosen ∧ ¬ rS2 p0 ∧ idOf (.slice ra4 res.Net.length rcap5) ≠ some p0 ∧ idOf (.slice ra7 res.Chosen.length rcap8) ≠ some p0 ∧ (∀ b, idOf (.slice ra4 res.Net.length rcap5) = some b → ¬ rS2 b) ∧ (∀ b, idOf (.slice ra7 res.Chosen.length rcap8) = some b → ¬ rS2 b) ∧ (∀ b, idOf (.slice ra7 res.Chosen.length rcap8) = some b → idOf (.slice ra4 res.Net.length rcap5) ≠ some b)) := by
 refine C.body Try.func87 rfl rfl ?_
 unfold f_impl_Cluster_elect at hr
 have hS0 : St lo n0 H0 F0 := hS
 have hE0 := Ext.refl n0 F0
 have hlo0 := hS0.lo
 have lt0 := hS0.lt ho15
 with_reducible refine W.seq ?_
 with_reducible refine W.region ?_
 refine GL.box hS0 .nil (vc := [.pointer (some ⟨p0, 0, none⟩)]) rfl rfl rfl rfl rfl (by repeat' (first | exact List.forall_mem_nil _ | refine List.forall_mem_cons.2 ⟨?_, ?_⟩ | rfl)) (fun H25 hS26 ho27 hk28 => ?_)
 have fo29 := hS0.fnone (Nat.le_refl _)
 have ho31 := (hk28 _ (by have := lt0; omega)).trans ho15
 have h32 := OD.keep (n' := (n0 + 1)) h4 (by omega) (fun i hi => hk28 i (OD.id_lt h4 hi).2)
 have h33 := OW.keep (n' := (n0 + 1)) h9 (by omega) (fun i hi => hk28 i (OW.id_lt h9 hi).2)
 have h34 := OW.keep (n' := (n0 + 1)) h13 (by omega) (fun i hi => hk28 i (OW.id_lt h13 hi).2)
 have hlon01 := hS26.lo
 have lt30 : n0 < (n0 + 1) := by omega
 refine GL.box hS26 .nil (vc := [.int .i64 x18]) rfl rfl rfl rfl rfl (by repeat' (first | exact List.forall_mem_nil _ | refine List.forall_mem_cons.2 ⟨?_, ?_⟩ | rfl)) (fun H35 hS36 ho37 hk38 => ?_)
 have fo39 := hS26.fnone (Nat.le_refl _)
 have ho41 := (hk38 _ (by have := lt0; omega)).trans ho31
 have ho42 := (hk38 _ (by have := lt30; omega)).trans ho27
 have h43 := OD.keep (n' := ((n0 + 1) + 1)) h32 (by omega) (fun i hi => hk38 i (OD.id_lt h32 hi).2)
 have h44 := OW.keep (n' := ((n0 + 1) + 1)) h33 (by omega) (fun i hi => hk38 i (OW.id_lt h33 hi).2)
 have h45 := OW.keep (n' := ((n0 + 1) + 1)) h34 (by omega) (fun i hi => hk38 i (OW.id_lt h34 hi).2)
 have hlon011 := hS36.lo
 have lt40 : (n0 + 1) < ((n0 + 1) + 1) := by omega
 refine WL.nil ?_
 refine Ex.thn_norm ?_
 with_reducible refine W.seq ?_
 refine W.regionD [0, 1, 2, 3, 4, 5, 6, 7] [false, false, false, false, false, false, false, false] rfl rfl (by kernel_rfl) (by kernel_rfl) (by (conv => lhs; simp only [List.map_cons, List.map_nil, List.getD_cons_zero, List.getD_cons_succ]) <;> rfl) ?_
 refine WL.load1 .r rfl rfl rfl Try.underlying60 rfl rfl ho42 rfl ?_
 refine WL.nilCheck .r rfl rfl rfl rfl ?_
 refine WL.fieldAddr .r rfl rfl rfl Try.underlying30 rfl info26 rfl rfl ?_
 refine WL.load1 .r rfl rfl rfl Try.underlying26 rfl rfl ho41 rfl ?_
 refine WL.load1 .r rfl rfl rfl Try.underlying3 rfl rfl ho37 rfl ?_
 obtain ⟨x46, hx46, hr⟩ := bnd_some hr
 refine GL.indexD .r rfl rfl rfl Try.underlying26 info42 rfl rfl h43 rfl hx46 (fun b47 el48 hp49 => ?_)
 refine WL.assign .r rfl rfl rfl rfl ?_
 refine WL.assign .r rfl rfl rfl rfl ?_
 refine WL.nil ?_
 refine Ex.thn_norm ?_
 with_reducible refine W.seq ?_
 with_reducible refine W.seq ?_
 with_reducible refine W.region ?_
 refine WL.move .nil rfl rfl rfl rfl ?_
 refine WL.nilCheck .nil rfl rfl rfl rfl ?_
 refine WL.fieldAddr .nil rfl rfl rfl Try.underlying42 rfl info40 rfl rfl ?_
 obtain ⟨c50, ecs51, hrow52, hwin53, hb54⟩ := OD.get h43 hp49 hx46
 obtain ⟨a55, cap56, a57, cap58, a59, cap60, a61, cap62, rfl⟩ := GPeer.ofB hb54
 obtain ⟨S63, hs64, hs65, hs66, h67, h68⟩ := GPeer.open_Votes h43 hp49 hx46 hrow52 hwin53 (List.forall_mem_nil _)
 refine WL.load1 .nil rfl rfl rfl Try.underlying40 rfl rfl hrow52 ((win_get (m := 6) hwin53 (show (6 : Nat) < 9 by decide)).trans rfl) ?_
 refine WL.len .nil rfl rfl rfl Try.underlying40 rfl ?_
 refine WL.move .nil rfl rfl rfl rfl ?_
 refine WL.nil ?_
 refine Ex.thn_norm ?_
 with_reducible refine W.block ?_
 refine W.loopF (fun k0 fr n H => ∃ (x591 : Int) (x593 : Int) (S599 : Nat → Prop) (F : Heap), fr = [(2, .pointer (some ⟨n0, 0, none⟩)), (3, .pointer (some ⟨(n0 + 1), 0, none⟩)), (4, .pointer (some ⟨b47, el48, none⟩)), (5, .int .i64 x591), (17, .slice a57 x46.Votes.length cap58), (18, .int .i64 (x46.Votes.length : Int)), (19, .int .i64 x593)] ∧ St lo n H F ∧ Ext n0 F0 n F ∧ H (n0 + 1) = some (.row 1 [.int .i64 x18]) ∧ F (n0 + 1) = none ∧ H n0 = some (.row 1 [.pointer (some ⟨p0, 0, none⟩)]) ∧ F n0 = none ∧ H p0 = some (.row ez0 [.slice a2 x1.Peers.length cap3, .slice a7 x1.Net.length cap8, .slice a11 x1.Chosen.length cap12, .bool x1.Conflict]) ∧ F p0 = none ∧ OW lo n H F (.slice a57 x46.Votes.length cap58) x46.Votes ∧ OD lo n H F S599 [((x18).toNat, 6, .slice a57 x46.Votes.length cap58)] (.slice a2 x1.Peers.length cap3) x1.Peers ∧ OW lo n H F (.slice a7 x1.Net.length cap8) x1.Net ∧ OW lo n H F (.slice a11 x1.Chosen.length cap12) x1.Chosen ∧ idOf (.slice a57 x46.Votes.length cap58) ≠ some (n0 + 1) ∧ idOf (.slice a57 x46.Votes.length cap58) ≠ some n0 ∧ idOf (.slice a57 x46.Votes.length cap58) ≠ some p0 ∧ ¬ S599 (n0 + 1) ∧ ¬ S599 n0 ∧ ¬ S599 p0 ∧ (∀ b, S599 b → idOf (.slice a57 x46.Votes.length cap58) ≠ some b) ∧ idOf (.slice a7 x1.Net.length cap8) ≠ some (n0 + 1) ∧ idOf (.slice a7 x1.Net.length cap8) ≠ some n0 ∧ idOf (.slice a7 x1.Net.length cap8) ≠ some p0 ∧ (∀ b, idOf (.slice a7 x1.Net.length cap8) = some b → idOf (.slice a57 x46.Votes.length cap58) ≠ some b) ∧ (∀ b, idOf (.slice a7 x1.Net.length cap8) = some b → ¬ S599 b) ∧ idOf (.slice a11 x1.Chosen.length cap12) ≠ some (n0 + 1) ∧ idOf (.slice a11 x1.Chosen.length cap12) ≠ some n0 ∧ idOf (.slice a11 x1.Chosen.length cap12) ≠ some p0 ∧ (∀ b, idOf (.slice a11 x1.Chosen.length cap12) = some b → idOf (.slice a57 x46.Votes.length cap58) ≠ some b) ∧ (∀ b, idOf (.slice a11 x1.Chosen.length cap12) = some b → ¬ S599 b) ∧ (∀ b, idOf (.slice a11 x1.Chosen.length cap12) = some b → idOf (.slice a7 x1.Net.length cap8) ≠ some b) ∧ f_impl_Cluster_elect_L0 x46 x1 x18 k0 x591 x593 = some res) BIG (fr0 := [(2, .pointer (some ⟨n0, 0, none⟩)), (3, .pointer (some ⟨(n0 + 1), 0, none⟩)), (4, .pointer (some ⟨b47, el48, none⟩)), (5, .int .i64 0), (17, .slice a57 x46.Votes.length cap58), (18, .int .i64 (x46.Votes.length : Int)), (19, .int .i64 0)]) (Fr.le_cons rfl (Fr.le_cons rfl (Fr.le_cons rfl (Fr.le_cons rfl (Fr.le_cons rfl (Fr.le_cons rfl (Fr.le_cons rfl Fr.le_nil))))))) ?_ ?_ ?_
 {
 exact ⟨0, 0, S63, F0, rfl, hS36, (hE0.up (by omega)), ho37, fo39, ho42, fo29, ho41, fo16, h67, h68, h44, h45, (Ap.sub0 hs65 (Ap.alloc (OD.hb h32))), (Ap.sub0 hs65 (Ap.alloc (OD.hb h4))), (Ap.sub0 hs65 ap19), (Ap.sub0 hs64 (Ap.alloc (OD.hb h32))), (Ap.sub0 hs64 (Ap.alloc (OD.hb h4))), (Ap.sub0 hs64 ap19), (Ap.sym hs66), (Ap.alloc (OW.hb h33)), (Ap.alloc (OW.hb h9)), ap20, (Ap.sym (Ap.sub hs65 (Ap.sym ap21))), (Ap.sym (Ap.sub hs64 (Ap.sym ap21))), (Ap.alloc (OW.hb h34)), (Ap.alloc (OW.hb h13)), ap22, (Ap.sym (Ap.sub hs65 (Ap.sym ap23))), (Ap.sym (Ap.sub hs64 (Ap.sym ap23))), ap24, hr⟩
 }
 {
 intro fr n H hI
 obtain ⟨x591, x593, S599, F588, hfr, hS589, hE590, ho594, fo595, ho596, fo597, ho602, fo603, h592, h598, h600, h601, ap604, ap605, ap606, ap607, ap608, ap609, ap610, ap611, ap612, ap613, ap614, ap615, ap616, ap617, ap618, ap619, ap620, ap621, hr⟩ := hI
 rw [f_impl_Cluster_elect_L0] at hr
 cases hr
 }
 {
 intro k0 _ n586 H587 hI
 obtain ⟨x591, x593, S599, F588, rfl, hS589, hE590, ho594, fo595, ho596, fo597, ho602, fo603, h592, h598, h600, h601, ap604, ap605, ap606, ap607, ap608, ap609, ap610, ap611, ap612, ap613, ap614, ap615, ap616, ap617, ap618, ap619, ap620, ap621, hr⟩ := hI
 have lt622 := hS589.lt ho594
 have lt623 := hS589.lt ho596
 have lt624 := hS589.lt ho602
 have hlen586 := hE590.le
 have hlon586 := hS589.lo
 rw [f_impl_Cluster_elect_L0] at hr
 with_reducible refine W.seq ?_
 with_reducible refine W.region ?_
 refine WL.bin .nil rfl rfl rfl rfl rfl rfl ?_
 refine WL.nil ?_
 refine Ex.thn_norm ?_
 with_reducible refine W.seq ?_
 refine W.condD rfl (fun hc626 => ?_) (fun hc626 => ?_)
 {
 replace hr := ite_pos hr hc626
 with_reducible refine W.skip ?_
 refine Ex.thn_norm ?_
 with_reducible refine W.seq ?_
 refine W.cut (fun fr n H => ∃ (x644 : Int) (S651 : Nat → Prop) (F : Heap), fr = [(2, .pointer (some ⟨n0, 0, none⟩)), (3, .pointer (some ⟨(n0 + 1), 0, none⟩)), (4, .pointer (some ⟨b47, el48, none⟩)), (5, .int .i64 x644), (17, .slice a57 x46.Votes.length cap58), (18, .int .i64 (x46.Votes.length : Int)), (19, .int .i64 x593)] ∧ St lo n H F ∧ Ext n0 F0 n F ∧ H (n0 + 1) = some (.row 1 [.int .i64 x18]) ∧ F (n0 + 1) = none ∧ H n0 = some (.row 1 [.pointer (some ⟨p0, 0, none⟩)]) ∧ F n0 = none ∧ H p0 = some (.row ez0 [.slice a2 x1.Peers.length cap3, .slice a7 x1.Net.length cap8, .slice a11 x1.Chosen.length cap12, .bool x1.Conflict]) ∧ F p0 = none ∧ OW lo n H F (.slice a57 x46.Votes.length cap58) x46.Votes ∧ OD lo n H F S651 [((x18).toNat, 6, .slice a57 x46.Votes.length cap58)] (.slice a2 x1.Peers.length cap3) x1.Peers ∧ OW lo n H F (.slice a7 x1.Net.length cap8) x1.Net ∧ OW lo n H F (.slice a11 x1.Chosen.length cap12) x1.Chosen ∧ idOf (.slice a57 x46.Votes.length cap58) ≠ some (n0 + 1) ∧ idOf (.slice a57 x46.Votes.length cap58) ≠ some n0 ∧ idOf (.slice a57 x46.Votes.length cap58) ≠ some p0 ∧ ¬ S651 (n0 + 1) ∧ ¬ S651 n0 ∧ ¬ S651 p0 ∧ (∀ b, S651 b → idOf (.slice a57 x46.Votes.length cap58) ≠ some b) ∧ idOf (.slice a7 x1.Net.length cap8) ≠ some (n0 + 1) ∧ idOf (.slice a7 x1.Net.length cap8) ≠ some n0 ∧ idOf (.slice a7 x1.Net.length cap8) ≠ some p0 ∧ (∀ b, idOf (.slice a7 x1.Net.length cap8) = some b → idOf (.slice a57 x46.Votes.length cap58) ≠ some b) ∧ (∀ b, idOf (.slice a7 x1.Net.length cap8) = some b → ¬ S651 b) ∧ idOf (.slice a11 x1.Chosen.length cap12) ≠ some (n0 + 1) ∧ idOf (.slice a11 x1.Chosen.length cap12) ≠ some n0 ∧ idOf (.slice a11 x1.Chosen.length cap12) ≠ some p0 ∧ (∀ b, idOf (.slice a11 x1.Chosen.length cap12) = some b → idOf (.slice a57 x46.Votes.length cap58) ≠ some b) ∧ (∀ b, idOf (.slice a11 x1.Chosen.length cap12) = some b → ¬ S651 b) ∧ (∀ b, idOf (.slice a11 x1.Chosen.length cap12) = some b → idOf (.slice a7 x1.Net.length cap8) ≠ some b) ∧ f_impl_Cluster_elect_J1 x593 (f_impl_Cluster_elect_L0 x46 x1 x18 k0) x644 = some res) ?_ ?_
 {
 with_reducible refine W.block ?_
 with_reducible refine W.seq ?_
 with_reducible refine W.region ?_
 obtain ⟨x678, hx678, hr⟩ := bnd_some hr
 refine GL.indexO .nil rfl rfl rfl Try.underlying40 info4 rfl rfl h592 rfl hx678 (fun b679 kp680 c681 ecs682 hid686 hrow683 hwin684 hR685 hup687 => ?_)
 have hcs : _ = ([.bool x678] : List Value) := hR685
 subst hcs
 refine WL.load1 .nil rfl rfl rfl Try.underlying4 rfl rfl hrow683 ((win_get0 hwin684 (show (0 : Nat) < 1 by decide)).trans rfl) ?_
 refine WL.assign .nil rfl rfl rfl rfl ?_
 refine WL.nil ?_
 refine Ex.thn_norm ?_
 with_reducible refine W.seq ?_
 with_reducible refine W.region ?_
 refine WL.move .nil rfl rfl rfl rfl ?_
 refine WL.nil ?_
 refine Ex.thn_norm ?_
 refine W.cond rfl (fun hc688 => ?_) (fun hc688 => ?_)
 {
 replace hr := iteB_pos hr hc688
 with_reducible refine W.region ?_
 refine WL.move .nil rfl rfl rfl rfl ?_
 obtain ⟨hc689, hr⟩ := chk_some hr
 refine WL.addI .nil rfl rfl rfl rfl rfl hc689.1 hc689.2 ?_
 refine WL.assign .nil rfl rfl rfl rfl ?_
 refine WL.nil ?_
 with_reducible refine Ex.blk_norm ?_
 refine Ex.thn_norm ?_
 exact ⟨[(2, .pointer (some ⟨n0, 0, none⟩)), (3, .pointer (some ⟨(n0 + 1), 0, none⟩)), (4, .pointer (some ⟨b47, el48, none⟩)), (5, .int .i64 (x591 + 1)), (17, .slice a57 x46.Votes.length cap58), (18, .int .i64 (x46.Votes.length : Int)), (19, .int .i64 x593)], (Fr.le_cons rfl (Fr.le_cons rfl (Fr.le_cons rfl (Fr.le_cons rfl (Fr.le_cons rfl (Fr.le_cons rfl (Fr.le_cons rfl Fr.le_nil))))))), (x591 + 1), S599, F588, rfl, hS589, hE590, ho594, fo595, ho596, fo597, ho602, fo603, h592, h598, h600, h601, ap604, ap605, ap606, ap607, ap608, ap609, ap610, ap611, ap612, ap613, ap614, ap615, ap616, ap617, ap618, ap619, ap620, ap621, hr⟩
 }
 {
 replace hr := iteB_neg hr hc688
 with_reducible refine W.skip ?_
 with_reducible refine Ex.blk_norm ?_
 refine Ex.thn_norm ?_
 exact ⟨[(2, .pointer (some ⟨n0, 0, none⟩)), (3, .pointer (some ⟨(n0 + 1), 0, none⟩)), (4, .pointer (some ⟨b47, el48, none⟩)), (5, .int .i64 x591), (17, .slice a57 x46.Votes.length cap58), (18, .int .i64 (x46.Votes.length : Int)), (19, .int .i64 x593)], (Fr.le_cons rfl (Fr.le_cons rfl (Fr.le_cons rfl (Fr.le_cons rfl (Fr.le_cons rfl (Fr.le_cons rfl (Fr.le_cons rfl Fr.le_nil))))))), x591, S599, F588, rfl, hS589, hE590, ho594, fo595, ho596, fo597, ho602, fo603, h592, h598, h600, h601, ap604, ap605, ap606, ap607, ap608, ap609, ap610, ap611, ap612, ap613, ap614, ap615, ap616, ap617, ap618, ap619, ap620, ap621, hr⟩
 }
 }
 {
 intro _ n639 H640 hI
 obtain ⟨x644, S651, F641, rfl, hS642, hE643, ho646, fo647, ho648, fo649, ho654, fo655, h645, h650, h652, h653, ap656, ap657, ap658, ap659, ap660, ap661, ap662, ap663, ap664, ap665, ap666, ap667, ap668, ap669, ap670, ap671, ap672, ap673, hr⟩ := hI
 have lt674 := hS642.lt ho646
 have lt675 := hS642.lt ho648
 have lt676 := hS642.lt ho654
 have hlen639 := hE643.le
 have hlon639 := hS642.lo
 unfold f_impl_Cluster_elect_J1 at hr
 with_reducible refine W.region ?_
 obtain ⟨hc677, hr⟩ := chk_some hr
 refine WL.addI .nil rfl rfl rfl rfl rfl hc677.1 hc677.2 ?_
 refine WL.move .nil rfl rfl rfl rfl ?_
 refine WL.nil ?_
 refine Ex.thn_norm ?_
 exact ⟨[(2, .pointer (some ⟨n0, 0, none⟩)), (3, .pointer (some ⟨(n0 + 1), 0, none⟩)), (4, .pointer (some ⟨b47, el48, none⟩)), (5, .int .i64 x644), (17, .slice a57 x46.Votes.length cap58), (18, .int .i64 (x46.Votes.length : Int)), (19, .int .i64 (x593 + 1))], (Fr.le_cons rfl (Fr.le_cons rfl (Fr.le_cons rfl (Fr.le_cons rfl (Fr.le_cons rfl (Fr.le_cons rfl (Fr.le_cons rfl Fr.le_nil))))))), x644, (x593 + 1), S651, F641, rfl, hS642, hE643, ho646, fo647, ho648, fo649, ho654, fo655, h645, h650, h652, h653, ap656, ap657, ap658, ap659, ap660, ap661, ap662, ap663, ap664, ap665, ap666, ap667, ap668, ap669, ap670, ap671, ap672, ap673, hr⟩
 }
 }
 {
 replace hr := ite_neg hr hc626
 with_reducible refine W.exit ?_
 with_reducible refine Ex.thn_ex ?_
 with_reducible refine Ex.thn_ex ?_
 with_reducible refine Ex.blk_here ?_
 refine Ex.thn_norm ?_
 with_reducible refine W.seq ?_
 with_reducible refine W.seq ?_
 refine W.cut (fun fr n H => ∃ (x731 : Bool) (S737 : Nat → Prop) (F : Heap), fr = [(2, .pointer (some ⟨n0, 0, none⟩)), (3, .pointer (some ⟨(n0 + 1), 0, none⟩)), (4, .pointer (some ⟨b47, el48, none⟩)), (41, .bool x731)] ∧ St lo n H F ∧ Ext n0 F0 n F ∧ H (n0 + 1) = some (.row 1 [.int .i64 x18]) ∧ F (n0 + 1) = none ∧ H n0 = some (.row 1 [.pointer (some ⟨p0, 0, none⟩)]) ∧ F n0 = none ∧ H p0 = some (.row ez0 [.slice a2 x1.Peers.length cap3, .slice a7 x1.Net.length cap8, .slice a11 x1.Chosen.length cap12, .bool x1.Conflict]) ∧ F p0 = none ∧ OD lo n H F S737 [] (.slice a2 x1.Peers.length cap3) x1.Peers ∧ OW lo n H F (.slice a7 x1.Net.length cap8) x1.Net ∧ OW lo n H F (.slice a11 x1.Chosen.length cap12) x1.Chosen ∧ ¬ S737 (n0 + 1) ∧ ¬ S737 n0 ∧ ¬ S737 p0 ∧ idOf (.slice a7 x1.Net.length cap8) ≠ some (n0 + 1) ∧ idOf (.slice a7 x1.Net.length cap8) ≠ some n0 ∧ idOf (.slice a7 x1.Net.length cap8) ≠ some p0 ∧ (∀ b, idOf (.slice a7 x1.Net.length cap8) = some b → ¬ S737 b) ∧ idOf (.slice a11 x1.Chosen.length cap12) ≠ some (n0 + 1) ∧ idOf (.slice a11 x1.Chosen.length cap12) ≠ some n0 ∧ idOf (.slice a11 x1.Chosen.length cap12) ≠ some p0 ∧ (∀ b, idOf (.slice a11 x1.Chosen.length cap12) = some b → ¬ S737 b) ∧ (∀ b, idOf (.slice a11 x1.Chosen.length cap12) = some b → idOf (.slice a7 x1.Net.length cap8) ≠ some b) ∧ f_impl_Cluster_elect_J2 x1 x46 x18 x731 = some res) ?_ ?_
 {
 with_reducible refine W.region ?_
 refine WL.move .nil rfl rfl rfl rfl ?_
 refine WL.nilCheck .nil rfl rfl rfl rfl ?_
 refine WL.fieldAddr .nil rfl rfl rfl Try.underlying42 rfl info3 rfl rfl ?_
 obtain ⟨c1676, ecs1677, hrow1678, hwin1679, hb1680⟩ := OD.get h598 hp49 hx46
 obtain ⟨a1681, cap1682, a1683, cap1684, a1685, cap1686, a1687, cap1688, rfl⟩ := GPeer.ofB hb1680
 have hq1689 := OD.hole h598 hp49 hx46 hrow1678 hwin1679
 obtain ⟨rfl, rfl⟩ := hdr_eq (a := a1683) (c := cap1684) hq1689
 refine WL.load1 .nil rfl rfl rfl Try.underlying3 rfl rfl hrow1678 ((win_get (m := 4) hwin1679 (show (4 : Nat) < 9 by decide)).trans rfl) ?_
 refine WL.bin .nil rfl rfl rfl rfl rfl rfl ?_
 refine WL.move .nil rfl rfl rfl rfl ?_
 refine WL.guardN rfl rfl rfl (fun hg1690 => ?_) (fun hg1690 => ?_)
 {
 replace hr := ite_neg hr hg1690
 refine WL.skip .nil rfl rfl ?_
 refine WL.skip .nil rfl rfl ?_
 refine WL.skip .nil rfl rfl ?_
 refine WL.skip .nil rfl rfl ?_
 refine WL.skip .nil rfl rfl ?_
 refine WL.skip .nil rfl rfl ?_
 refine WL.skip .nil rfl rfl ?_
 refine WL.skip .nil rfl rfl ?_
 refine WL.pick .nil rfl rfl rfl rfl rfl ?_
 refine WL.nil ?_
 refine Ex.thn_norm ?_
 obtain ⟨S1691, hs1692, h1693⟩ := GPeer.close0_Votes h598 hx46 h592
 exact ⟨[(2, .pointer (some ⟨n0, 0, none⟩)), (3, .pointer (some ⟨(n0 + 1), 0, none⟩)), (4, .pointer (some ⟨b47, el48, none⟩)), (41, .bool true)], (Fr.le_cons rfl (Fr.le_cons rfl (Fr.le_cons rfl (Fr.le_cons rfl Fr.le_nil)))), true, S1691, F588, rfl, hS589, hE590, ho594, fo595, ho596, fo597, ho602, fo603, h1693, h600, h601, (Ap.or0 hs1692 ap607 ap604), (Ap.or0 hs1692 ap608 ap605), (Ap.or0 hs1692 ap609 ap606), ap611, ap612, ap613, (Ap.sym (Ap.or hs1692 (Ap.sym ap615) (Ap.sym ap614))), ap616, ap617, ap618, (Ap.sym (Ap.or hs1692 (Ap.sym ap620) (Ap.sym ap619))), ap621, hr⟩
 }
 {
 replace hr := ite_pos hr hg1690
 refine WL.move .nil rfl rfl rfl rfl ?_
 refine WL.load1 .nil rfl rfl rfl Try.underlying60 rfl rfl ho596 rfl ?_
 refine WL.nilCheck .nil rfl rfl rfl rfl ?_
 refine WL.fieldAddr .nil rfl rfl rfl Try.underlying30 rfl info26 rfl rfl ?_
 refine WL.load1 .nil rfl rfl rfl Try.underlying26 rfl rfl ho602 rfl ?_
 refine WL.len .nil rfl rfl rfl Try.underlying26 rfl ?_
 obtain ⟨x1694, hx1694, hr⟩ := bnd_some hr
 refine GL.callP g.good .nil rfl rfl rfl rfl rfl rfl Try.func34 rfl rfl hS589.lo (f_impl_most_k  g hS589 hx1694) (fun v n1695 H1696 hn1697 hk1698 hp1699 => ?_)
 obtain ⟨hS1700, rfl⟩ := hp1699
 have ho1701 := (hk1698 _ (by have := lt622; omega)).trans ho594
 have ho1702 := (hk1698 _ (by have := lt623; omega)).trans ho596
 have ho1703 := (hk1698 _ (by have := lt624; omega)).trans ho602
 have h1704 := OW.keep (n' := n1695) h592 (by omega) (fun i hi => hk1698 i (OW.id_lt h592 hi).2)
 have h1705 := OD.keep (n' := n1695) h598 (by omega) (fun i hi => hk1698 i (OD.id_lt h598 hi).2)
 have h1706 := OW.keep (n' := n1695) h600 (by omega) (fun i hi => hk1698 i (OW.id_lt h600 hi).2)
 have h1707 := OW.keep (n' := n1695) h601 (by omega) (fun i hi => hk1698 i (OW.id_lt h601 hi).2)
 have hS1708 : St lo n1695 H1696 F588 := ⟨by have := hS589.lo; omega, hS1700.hb, hS1700.fh⟩
 have hlon1695 := hS1708.lo
 refine WL.bin .nil rfl rfl rfl rfl rfl rfl ?_
 refine WL.pick .nil rfl rfl rfl rfl rfl ?_
 refine WL.nil ?_
 refine Ex.thn_norm ?_
 obtain ⟨S1709, hs1710, h1711⟩ := GPeer.close0_Votes h1705 hx46 h1704
 exact ⟨[(2, .pointer (some ⟨n0, 0, none⟩)), (3, .pointer (some ⟨(n0 + 1), 0, none⟩)), (4, .pointer (some ⟨b47, el48, none⟩)), (41, .bool (decide (x591 < x1694)))], (Fr.le_cons rfl (Fr.le_cons rfl (Fr.le_cons rfl (Fr.le_cons rfl Fr.le_nil)))), (decide (x591 < x1694)), S1709, F588, rfl, hS1708, (hE590.up (by omega)), ho1701, fo595, ho1702, fo597, ho1703, fo603, h1711, h1706, h1707, (Ap.or0 hs1710 ap607 ap604), (Ap.or0 hs1710 ap608 ap605), (Ap.or0 hs1710 ap609 ap606), ap611, ap612, ap613, (Ap.sym (Ap.or hs1710 (Ap.sym ap615) (Ap.sym ap614))), ap616, ap617, ap618, (Ap.sym (Ap.or hs1710 (Ap.sym ap620) (Ap.sym ap619))), ap621, hr⟩
 }
 }
 {
 intro _ n726 H727 hI
 obtain ⟨x731, S737, F728, rfl, hS729, hE730, ho732, fo733, ho734, fo735, ho740, fo741, h736, h738, h739, ap742, ap743, ap744, ap745, ap746, ap747, ap748, ap749, ap750, ap751, ap752, ap753, hr⟩ := hI
 have lt754 := hS729.lt ho732
 have lt755 := hS729.lt ho734
 have lt756 := hS729.lt ho740
 have hlen726 := hE730.le
 have hlon726 := hS729.lo
 unfold f_impl_Cluster_elect_J2 at hr
 refine W.cond rfl (fun hc758 => ?_) (fun hc758 => ?_)
 {
 replace hr := iteB_pos hr hc758
 with_reducible refine W.ret ?_
 with_reducible refine Ex.thn_ret ?_
 obtain rfl := Option.some.inj hr
 exact ⟨.inr rfl, _, .nil, ⟨F728, S737, a7, cap8, a11, cap12, (hE730.up (by omega)), hS729, ho740, rfl, h736, rfl, h738, h739, ap744, ap747, ap751, ap748, ap752, ap753⟩⟩
 }
 {
 replace hr := iteB_neg hr hc758
 with_reducible refine W.skip ?_
 refine Ex.thn_norm ?_
 with_reducible refine W.seq ?_
 with_reducible refine W.region ?_
 refine WL.move .nil rfl rfl rfl rfl ?_
 refine WL.move .nil rfl rfl rfl rfl ?_
 refine WL.nilCheck .nil rfl rfl rfl rfl ?_
 refine WL.fieldAddr .nil rfl rfl rfl Try.underlying42 rfl info3 rfl rfl ?_
 obtain ⟨c759, ecs760, hrow761, hwin762, hb763⟩ := OD.get h736 hp49 hx46
 obtain ⟨a764, cap765, a766, cap767, a768, cap769, a770, cap771, rfl⟩ := GPeer.ofB hb763
 refine GL.store hS729 .nil (vc := [.int .i64 2]) rfl rfl rfl info3 rfl rfl rfl rfl hrow761 (OD.fnone h736 (OD.bS h736 hp49)) (win_fit2 hwin762 (Nat.le_of_ble_eq_true rfl) rfl (Nat.le_of_ble_eq_true rfl)) (by have := (OD.id_lt h736 (OD.bS h736 hp49)).1; omega) (one1 rfl) rfl (fun H772 hS773 ho774 hk775 => ?_)
 have ho776 := (hk775 (n0 + 1) (fun hj => ap742 (by rw [hj]; exact (OD.bS h736 hp49)))).trans ho732
 have ho777 := (hk775 n0 (fun hj => ap743 (by rw [hj]; exact (OD.bS h736 hp49)))).trans ho734
 have ho778 := (hk775 p0 (fun hj => ap744 (by rw [hj]; exact (OD.bS h736 hp49)))).trans ho740
 have h779 := OW.keep h738 (Nat.le_refl _) (fun i hi => hk775 i (fun hj => ap748 i hi (by rw [hj]; exact (OD.bS h736 hp49))))
 have h780 := OW.keep h739 (Nat.le_refl _) (fun i hi => hk775 i (fun hj => ap752 i hi (by rw [hj]; exact (OD.bS h736 hp49))))
 have h781 := GPeer.put_Role h736 hp49 hx46 hrow761 hwin762 (w := 2) ho774 hk775
 have hl782 : x1.Peers.length = (setI x1.Peers x18 ({ Up := x46.Up, Term := x46.Term, Vote := x46.Vote, Commit := x46.Commit, Role := 2, Log := x46.Log, Votes := x46.Votes, Next := x46.Next, Match := x46.Match } : GPeer)).length := (setI_length _ _ _).symm
 have hx783 : idx (setI x1.Peers x18 ({ Up := x46.Up, Term := x46.Term, Vote := x46.Vote, Commit := x46.Commit, Role := 2, Log := x46.Log, Votes := x46.Votes, Next := x46.Next, Match := x46.Match } : GPeer)) x18 = some ({ Up := x46.Up, Term := x46.Term, Vote := x46.Vote, Commit := x46.Commit, Role := 2, Log := x46.Log, Votes := x46.Votes, Next := x46.Next, Match := x46.Match } : GPeer) := idx_setI_same hx46
 refine WL.nilCheck .nil rfl rfl rfl rfl ?_
 refine WL.fieldAddr .nil rfl rfl rfl Try.underlying42 rfl info40 rfl rfl ?_
 obtain ⟨c784, ecs785, hrow786, hwin787, hb788⟩ := OD.get h781 hp49 hx783
 obtain ⟨a789, cap790, a791, cap792, a793, cap794, a795, cap796, rfl⟩ := GPeer.ofB hb788
 refine GL.store hS773 .nil (vc := [.slice none 0 0]) rfl rfl rfl info40 rfl rfl rfl rfl hrow786 (OD.fnone h781 (OD.bS h781 hp49)) (win_fit2 hwin787 (Nat.le_of_ble_eq_true rfl) rfl (Nat.le_of_ble_eq_true rfl)) (by have := (OD.id_lt h781 (OD.bS h781 hp49)).1; omega) (one1 rfl) rfl (fun H797 hS798 ho799 hk800 => ?_)
 have ho801 := (hk800 (n0 + 1) (fun hj => ap742 (by rw [hj]; exact (OD.bS h781 hp49)))).trans ho776
 have ho802 := (hk800 n0 (fun hj => ap743 (by rw [hj]; exact (OD.bS h781 hp49)))).trans ho777
 have ho803 := (hk800 p0 (fun hj => ap744 (by rw [hj]; exact (OD.bS h781 hp49)))).trans ho778
 have h804 := OW.keep h779 (Nat.le_refl _) (fun i hi => hk800 i (fun hj => ap748 i hi (by rw [hj]; exact (OD.bS h781 hp49))))
 have h805 := OW.keep h780 (Nat.le_refl _) (fun i hi => hk800 i (fun hj => ap752 i hi (by rw [hj]; exact (OD.bS h781 hp49))))
 have h806 := GPeer.nil_Votes h781 hp49 hx783 hrow786 hwin787 z00 z00 ho799 hk800
 rw [setI_setI] at h806
 have hl807 : x1.Peers.length = (setI x1.Peers x18 ({ Up := x46.Up, Term := x46.Term, Vote := x46.Vote, Commit := x46.Commit, Role := 2, Log := x46.Log, Votes := [], Next := x46.Next, Match := x46.Match } : GPeer)).length := hl782.trans (by rw [setI_length, setI_length])
 have hx808 : idx (setI x1.Peers x18 ({ Up := x46.Up, Term := x46.Term, Vote := x46.Vote, Commit := x46.Commit, Role := 2, Log := x46.Log, Votes := [], Next := x46.Next, Match := x46.Match } : GPeer)) x18 = some ({ Up := x46.Up, Term := x46.Term, Vote := x46.Vote, Commit := x46.Commit, Role := 2, Log := x46.Log, Votes := [], Next := x46.Next, Match := x46.Match } : GPeer) := idx_setI_same hx46
 refine WL.nil ?_
 refine Ex.thn_norm ?_
 with_reducible refine W.seq ?_
 refine W.regionI (fun H => H (n726 + 1) = some (.row (Rp.sz Int) (List.replicate (x1.Peers.length : Int).toNat [.int .i64 0]).flatten)) [0, 1, 2, 3, 4, 5, 6, 7, 8, 9, 10, 11, 12, 13, 15, 16, 17, 18, 19, 20, 14, 21, 22, 23, 24, 25, 26] [(false, false, false), (false, true, false), (false, false, false), (false, false, false), (false, false, false), (false, false, false), (false, false, false), (false, false, false), (false, false, false), (false, false, false), (false, false, false), (false, false, false), (false, false, false), (false, false, false), (false, false, false), (false, false, false), (false, false, false), (false, false, false), (false, true, false), (false, true, false), (false, false, false), (false, false, false), (false, false, false), (true, false, false), (false, false, false), (false, false, false), (true, false, true)] false rfl (by kernel_rfl) (by kernel_rfl) (by (conv => lhs; simp only [List.map_cons, List.map_nil, List.getD_cons_zero, List.getD_cons_succ]) <;> rfl) ?_
 refine WLI.op (fun h => by cases h) ?_
 refine WL.move .r rfl rfl rfl rfl ?_
 with_reducible refine WL.nil ⟨rfl, ?_⟩
 refine WLI.late (v := .pointer (some ⟨b47, el48, none⟩)) (fun h => by cases h) rfl rfl (fun H2 hI2 => .move (.inl rfl) rfl) ?_
 refine WLI.op (fun h => by cases h) ?_
 refine WL.move .r rfl rfl rfl rfl ?_
 with_reducible refine WL.nil ⟨rfl, ?_⟩
 refine WLI.op (fun h => by cases h) ?_
 refine WL.nilCheck .r rfl rfl rfl rfl ?_
 with_reducible refine WL.nil ⟨rfl, ?_⟩
 refine WLI.op (fun h => by cases h) ?_
 refine WL.fieldAddr .r rfl rfl rfl Try.underlying42 rfl info28 rfl rfl ?_
 with_reducible refine WL.nil ⟨rfl, ?_⟩
 refine WLI.op (fun h => by cases h) ?_
 obtain ⟨c810, ecs811, hrow812, hwin813, hb814⟩ := OD.get h806 hp49 hx808
 obtain ⟨a815, cap816, a817, cap818, a819, cap820, a821, cap822, rfl⟩ := GPeer.ofB hb814
 obtain ⟨S823, hs824, hs825, hs826, h827, h828⟩ := GPeer.open_Log h806 hp49 hx808 hrow812 hwin813 (List.forall_mem_nil _)
 refine WL.load1 .r rfl rfl rfl Try.underlying28 rfl rfl hrow812 ((win_get (m := 5) hwin813 (show (5 : Nat) < 9 by decide)).trans rfl) ?_
 with_reducible refine WL.nil ⟨rfl, ?_⟩
 refine WLI.op (fun h => by cases h) ?_
 refine WL.len .r rfl rfl rfl Try.underlying28 rfl ?_
 with_reducible refine WL.nil ⟨rfl, ?_⟩
 refine WLI.op (fun h => by cases h) ?_
 obtain ⟨hc830, hr⟩ := chk_some hr
 refine WL.addI .r rfl rfl rfl rfl rfl hc830.1 hc830.2 ?_
 with_reducible refine WL.nil ⟨rfl, ?_⟩
 refine WLI.op (fun h => by cases h) ?_
 refine GL.lit (cs := [.int .i64 ((x46.Log.length : Int) + 1)]) (xs := ([((x46.Log.length : Int) + 1)] : List Int)) hS798 .r rfl rfl rfl Try.underlying31 info3 rfl rfl rfl (by decide) (by decide) rfl rfl rfl rfl rfl (RA.cons (cs := [.int .i64 ((x46.Log.length : Int) + 1)]) (a := (((x46.Log.length : Int) + 1) : Int)) rfl RA.nil) rfl (fun H831 hS832 hO833 hk834 => ?_)
 have ho835 := (hk834 _ (by have := lt754; omega)).trans ho801
 have ho836 := (hk834 _ (by have := lt755; omega)).trans ho802
 have ho837 := (hk834 _ (by have := lt756; omega)).trans ho803
 have h838 := OD.keep (n' := (n726 + 1)) h828 (by omega) (fun i hi => hk834 i (OD.id_lt h828 hi).2)
 have h839 := OW.keep (n' := (n726 + 1)) h804 (by omega) (fun i hi => hk834 i (OW.id_lt h804 hi).2)
 have h840 := OW.keep (n' := (n726 + 1)) h805 (by omega) (fun i hi => hk834 i (OW.id_lt h805 hi).2)
 have h841 := OW.keep (n' := (n726 + 1)) h827 (by omega) (fun i hi => hk834 i (OW.id_lt h827 hi).2)
 have h842 := OW.lower (lo' := n0) hO833 (by omega)
 have hlon7261 := hS832.lo
 with_reducible refine WL.nil ⟨rfl, ?_⟩
 refine WLI.op (fun h => by cases h) ?_
 refine WL.load1 .r rfl rfl rfl Try.underlying60 rfl rfl ho836 rfl ?_
 with_reducible refine WL.nil ⟨rfl, ?_⟩
 refine WLI.op (fun h => by cases h) ?_
 refine WL.nilCheck .r rfl rfl rfl rfl ?_
 with_reducible refine WL.nil ⟨rfl, ?_⟩
 refine WLI.op (fun h => by cases h) ?_
 refine WL.fieldAddr .r rfl rfl rfl Try.underlying30 rfl info26 rfl rfl ?_
 with_reducible refine WL.nil ⟨rfl, ?_⟩
 refine WLI.op (fun h => by cases h) ?_
 refine WL.load1 .r rfl rfl rfl Try.underlying26 rfl rfl ho837 rfl ?_
 with_reducible refine WL.nil ⟨rfl, ?_⟩
 refine WLI.op (fun h => by cases h) ?_
 refine WL.len .r rfl rfl rfl Try.underlying26 rfl ?_
 with_reducible refine WL.nil ⟨rfl, ?_⟩
 refine WLI.op (fun h => by cases h) ?_
 refine WL.load1 .r rfl rfl rfl Try.underlying60 rfl rfl ho836 rfl ?_
 with_reducible refine WL.nil ⟨rfl, ?_⟩
 refine WLI.op (fun h => by cases h) ?_
 refine WL.nilCheck .r rfl rfl rfl rfl ?_
 with_reducible refine WL.nil ⟨rfl, ?_⟩
 refine WLI.op (fun h => by cases h) ?_
 refine WL.fieldAddr .r rfl rfl rfl Try.underlying30 rfl info26 rfl rfl ?_
 with_reducible refine WL.nil ⟨rfl, ?_⟩
 refine WLI.op (fun h => by cases h) ?_
 refine WL.load1 .r rfl rfl rfl Try.underlying26 rfl rfl ho837 rfl ?_
 with_reducible refine WL.nil ⟨rfl, ?_⟩
 refine WLI.late (v := .int .i64 (x1.Peers.length : Int)) (fun h => by cases h) rfl rfl (fun H2 hI2 => Step.len' rfl Try.underlying26 rfl) ?_
 obtain ⟨hc851, hr⟩ := chk_some hr
 refine GL.makeLate (α := Int) (u := 0) (zc := [.int .i64 0]) hS832 (fun h => by cases h) rfl rfl rfl Try.underlying31 info3 rfl rfl rfl (by decide) rfl (by decide) rfl rfl rfl rfl hc851.1 hc851.2 (fun H h => h) (fun H852 hS853 hO854 hk855 hr856 => ?_)
 have ho857 := (hk855 _ (by have := lt754; omega)).trans ho835
 have ho858 := (hk855 _ (by have := lt755; omega)).trans ho836
 have ho859 := (hk855 _ (by have := lt756; omega)).trans ho837
 have h860 := OD.keep (n' := ((n726 + 1) + 1)) h838 (by omega) (fun i hi => hk855 i (OD.id_lt h838 hi).2)
 have h861 := OW.keep (n' := ((n726 + 1) + 1)) h839 (by omega) (fun i hi => hk855 i (OW.id_lt h839 hi).2)
 have h862 := OW.keep (n' := ((n726 + 1) + 1)) h840 (by omega) (fun i hi => hk855 i (OW.id_lt h840 hi).2)
 have h863 := OW.keep (n' := ((n726 + 1) + 1)) h841 (by omega) (fun i hi => hk855 i (OW.id_lt h841 hi).2)
 have h864 := OW.keep (n' := ((n726 + 1) + 1)) h842 (by omega) (fun i hi => hk855 i (OW.id_lt h842 hi).2)
 have h865 := OW.lower (lo' := n0) hO854 (by omega)
 have hlon72611 := hS853.lo
 have rw877 : RW n0 ((n726 + 1) + 1) H852 F728 (n726 + 1) (.row (Rp.sz Int) (List.replicate (x1.Peers.length : Int).toNat [.int .i64 0]).flatten) := ⟨by omega, by omega, OW.fnone h865 rfl, hr856⟩
 have ap878 : ¬ (n0 + 1) = (n726 + 1) := fun h => (Ap.fresh0 (OW.lb hO854) (by have := lt754; omega)) (congrArg some h.symm)
 have ap879 : ¬ n0 = (n726 + 1) := fun h => (Ap.fresh0 (OW.lb hO854) (by have := lt755; omega)) (congrArg some h.symm)
 have ap880 : ¬ p0 = (n726 + 1) := fun h => (Ap.fresh0 (OW.lb hO854) (by have := lt756; omega)) (congrArg some h.symm)
 have ap881 : ∀ b, b = (n726 + 1) → ¬ S823 b := fun b h => (Ap.fresh (OW.lb hO854) (OD.hb h838)) b (congrArg some h.symm)
 have ap882 : ∀ b, b = (n726 + 1) → idOf (.slice a7 x1.Net.length cap8) ≠ some b := fun b h => (Ap.fresh (OW.lb hO854) (OW.hb h839)) b (congrArg some h.symm)
 have ap883 : ∀ b, b = (n726 + 1) → idOf (.slice a11 x1.Chosen.length cap12) ≠ some b := fun b h => (Ap.fresh (OW.lb hO854) (OW.hb h840)) b (congrArg some h.symm)
 have ap884 : ∀ b, b = (n726 + 1) → idOf (.slice a815 x46.Log.length cap816) ≠ some b := fun b h => (Ap.fresh (OW.lb hO854) (OW.hb h841)) b (congrArg some h.symm)
 have ap885 : ∀ b, b = (n726 + 1) → idOf (.slice (some ⟨n726, 0, none⟩) ([((x46.Log.length : Int) + 1)] : List Int).length 1) ≠ some b := fun b h => (Ap.fresh (OW.lb hO854) (OW.hb h842)) b (congrArg some h.symm)
 refine WLI.op (fun h => by cases h) ?_
 obtain ⟨x886, hx886, hr⟩ := bnd_some hr
 refine GL.callP g.good .r rfl rfl rfl rfl rfl rfl Try.func112 rfl rfl (Nat.le_refl _) (f_slices_Repeat_int_k  g hS853 (OW.src h864) hx886) (fun v n887 H888 hn889 hk890 hp891 => ?_)
 obtain ⟨a892, cap893, hS895, rfl, h894⟩ := hp891
 have ho896 := (hk890 _ (by have := lt754; omega)).trans ho857
 have ho897 := (hk890 _ (by have := lt755; omega)).trans ho858
 have ho898 := (hk890 _ (by have := lt756; omega)).trans ho859
 have h899 := OD.keep (n' := n887) h860 (by omega) (fun i hi => hk890 i (OD.id_lt h860 hi).2)
 have h900 := OW.keep (n' := n887) h861 (by omega) (fun i hi => hk890 i (OW.id_lt h861 hi).2)
 have h901 := OW.keep (n' := n887) h862 (by omega) (fun i hi => hk890 i (OW.id_lt h862 hi).2)
 have h902 := OW.keep (n' := n887) h863 (by omega) (fun i hi => hk890 i (OW.id_lt h863 hi).2)
 have h903 := OW.keep (n' := n887) h864 (by omega) (fun i hi => hk890 i (OW.id_lt h864 hi).2)
 have h904 := OW.keep (n' := n887) h865 (by omega) (fun i hi => hk890 i (OW.id_lt h865 hi).2)
 have h905 := RW.keep (n' := n887) rw877 (by omega) (fun i hi => hk890 i (RW.id_lt rw877 hi).2)
 have hS906 : St lo n887 H888 F728 := ⟨by have := hS853.lo; omega, hS895.hb, hS895.fh⟩
 have hlon887 := hS906.lo
 have h907 := OW.lower (lo' := n0) h894 (by omega)
 with_reducible refine WL.nil ⟨rfl, ?_⟩
 refine WLI.op (fun h => by cases h) ?_
 refine WL.nilCheck .r rfl rfl rfl rfl ?_
 with_reducible refine WL.nil ⟨rfl, ?_⟩
 refine WLI.op (fun h => by cases h) ?_
 refine WL.fieldAddr .r rfl rfl rfl Try.underlying42 rfl info31 rfl rfl ?_
 with_reducible refine WL.nil ⟨rfl, ?_⟩
 refine WLI.op (fun h => by cases h) ?_
 obtain ⟨S919, hs920, h921⟩ := GPeer.close0_Log h899 hx808 h902
 obtain ⟨c922, ecs923, hrow924, hwin925, hb926⟩ := OD.get h921 hp49 hx808
 obtain ⟨a927, cap928, a929, cap930, a931, cap932, a933, cap934, rfl⟩ := GPeer.ofB hb926
 refine GL.store hS906 .w (vc := [.slice a892 x886.length cap893]) rfl rfl rfl info31 rfl rfl rfl rfl hrow924 (OD.fnone h921 (OD.bS h921 hp49)) (win_fit2 hwin925 (Nat.le_of_ble_eq_true rfl) rfl (Nat.le_of_ble_eq_true rfl)) (by have := (OD.id_lt h921 (OD.bS h921 hp49)).1; omega) (one1 rfl) rfl (fun H935 hS936 ho937 hk938 => ?_)
 have ho939 := (hk938 (n0 + 1) (fun hj => (Ap.or0 hs920 (Ap.sub0 hs824 ap742) (Ap.sub0 hs825 ap742)) (by rw [hj]; exact (OD.bS h921 hp49)))).trans ho896
 have ho940 := (hk938 n0 (fun hj => (Ap.or0 hs920 (Ap.sub0 hs824 ap743) (Ap.sub0 hs825 ap743)) (by rw [hj]; exact (OD.bS h921 hp49)))).trans ho897
 have ho941 := (hk938 p0 (fun hj => (Ap.or0 hs920 (Ap.sub0 hs824 ap744) (Ap.sub0 hs825 ap744)) (by rw [hj]; exact (OD.bS h921 hp49)))).trans ho898
 have h942 := OW.keep h900 (Nat.le_refl _) (fun i hi => hk938 i (fun hj => (Ap.sym (Ap.or hs920 (Ap.sub hs824 (Ap.sym ap748)) (Ap.sub hs825 (Ap.sym ap748)))) i hi (by rw [hj]; exact (OD.bS h921 hp49))))
 have h943 := OW.keep h901 (Nat.le_refl _) (fun i hi => hk938 i (fun hj => (Ap.sym (Ap.or hs920 (Ap.sub hs824 (Ap.sym ap752)) (Ap.sub hs825 (Ap.sym ap752)))) i hi (by rw [hj]; exact (OD.bS h921 hp49))))
 have h944 := OW.keep h903 (Nat.le_refl _) (fun i hi => hk938 i (fun hj => (Ap.sym (Ap.or hs920 (Ap.sym (Ap.fresh (OW.lb hO833) (OD.hb h828))) (Ap.sym (Ap.fresh (OW.lb hO833) (OW.hb h827))))) i hi (by rw [hj]; exact (OD.bS h921 hp49))))
 have h945 := OW.keep h904 (Nat.le_refl _) (fun i hi => hk938 i (fun hj => (Ap.sym (Ap.or hs920 (Ap.sym (Ap.fresh (OW.lb hO854) (OD.hb h838))) (Ap.sym (Ap.fresh (OW.lb hO854) (OW.hb h841))))) i hi (by rw [hj]; exact (OD.bS h921 hp49))))
 have h946 := RW.keep h905 (Nat.le_refl _) (fun i hi => hk938 i (fun hj => (Ap.sym (Ap.or hs920 (Ap.sym ap881) (Ap.sym ap884))) i hi (by rw [hj]; exact (OD.bS h921 hp49))))
 have h947 := OW.keep h907 (Nat.le_refl _) (fun i hi => hk938 i (fun hj => (Ap.sym (Ap.or hs920 (Ap.sym (Ap.fresh (OW.lb h894) (OD.hb h860))) (Ap.sym (Ap.fresh (OW.lb h894) (OW.hb h863))))) i hi (by rw [hj]; exact (OD.bS h921 hp49))))
 obtain ⟨S949, hs950, h948⟩ := GPeer.set_Next h921 hp49 hx808 hrow924 hwin925 (OW.lower h907 (by omega)) (fun i hi => (Ap.sym (Ap.or hs920 (Ap.sym (Ap.fresh (OW.lb h894) (OD.hb h860))) (Ap.sym (Ap.fresh (OW.lb h894) (OW.hb h863))))) i hi) z00 z00 ho937 hk938
 have ap951 : ¬ S949 (n0 + 1) := Ap.or0 hs950 (Ap.or0 hs920 (Ap.sub0 hs824 ap742) (Ap.sub0 hs825 ap742)) (Ap.fresh0 (OW.lb h894) (by have := lt754; omega))
 have ap952 : ¬ S949 n0 := Ap.or0 hs950 (Ap.or0 hs920 (Ap.sub0 hs824 ap743) (Ap.sub0 hs825 ap743)) (Ap.fresh0 (OW.lb h894) (by have := lt755; omega))
 have ap953 : ¬ S949 p0 := Ap.or0 hs950 (Ap.or0 hs920 (Ap.sub0 hs824 ap744) (Ap.sub0 hs825 ap744)) (Ap.fresh0 (OW.lb h894) (by have := lt756; omega))
 have ap954 : ∀ b, S949 b → idOf (.slice a7 x1.Net.length cap8) ≠ some b := Ap.or hs950 (Ap.or hs920 (Ap.sub hs824 (Ap.sym ap748)) (Ap.sub hs825 (Ap.sym ap748))) (Ap.fresh (OW.lb h894) (OW.hb h861))
 have ap955 : ∀ b, S949 b → idOf (.slice a11 x1.Chosen.length cap12) ≠ some b := Ap.or hs950 (Ap.or hs920 (Ap.sub hs824 (Ap.sym ap752)) (Ap.sub hs825 (Ap.sym ap752))) (Ap.fresh (OW.lb h894) (OW.hb h862))
 have ap956 : ∀ b, S949 b → idOf (.slice (some ⟨n726, 0, none⟩) ([((x46.Log.length : Int) + 1)] : List Int).length 1) ≠ some b := Ap.or hs950 (Ap.or hs920 (Ap.sym (Ap.fresh (OW.lb hO833) (OD.hb h828))) (Ap.sym (Ap.fresh (OW.lb hO833) (OW.hb h827)))) (Ap.fresh (OW.lb h894) (OW.hb h864))
 have ap957 : ∀ b, S949 b → idOf (.slice (some ⟨(n726 + 1), 0, none⟩) (List.replicate (x1.Peers.length : Int).toNat (0 : Int)).length ((x1.Peers.length : Int).toNat)) ≠ some b := Ap.or hs950 (Ap.or hs920 (Ap.sym (Ap.fresh (OW.lb hO854) (OD.hb h838))) (Ap.sym (Ap.fresh (OW.lb hO854) (OW.hb h841)))) (Ap.fresh (OW.lb h894) (OW.hb h865))
 rw [setI_setI] at h948
 have hl958 : x1.Peers.length = (setI x1.Peers x18 ({ Up := x46.Up, Term := x46.Term, Vote := x46.Vote, Commit := x46.Commit, Role := 2, Log := x46.Log, Votes := [], Next := x886, Match := x46.Match } : GPeer)).length := hl807.trans (by rw [setI_length, setI_length])
 have hx959 : idx (setI x1.Peers x18 ({ Up := x46.Up, Term := x46.Term, Vote := x46.Vote, Commit := x46.Commit, Role := 2, Log := x46.Log, Votes := [], Next := x886, Match := x46.Match } : GPeer)) x18 = some ({ Up := x46.Up, Term := x46.Term, Vote := x46.Vote, Commit := x46.Commit, Role := 2, Log := x46.Log, Votes := [], Next := x886, Match := x46.Match } : GPeer) := idx_setI_same hx46
 with_reducible refine WL.nil ⟨rfl, ?_⟩
 refine WLI.op (fun h => by cases h) ?_
 refine WL.nilCheck .r rfl rfl rfl rfl ?_
 with_reducible refine WL.nil ⟨rfl, ?_⟩
 refine WLI.op (fun h => by cases h) ?_
 refine WL.fieldAddr .r rfl rfl rfl Try.underlying42 rfl info31 rfl rfl ?_
 with_reducible refine WL.nil ⟨rfl, ?_⟩
 refine WLI.op (fun _ => h946.2.2.2) ?_
 obtain ⟨c960, ecs961, hrow962, hwin963, hb964⟩ := OD.get h948 hp49 hx959
 obtain ⟨a965, cap966, a967, cap968, a969, cap970, a971, cap972, rfl⟩ := GPeer.ofB hb964
 refine GL.store hS936 .w (vc := [.slice (some ⟨(n726 + 1), 0, none⟩) (List.replicate (x1.Peers.length : Int).toNat (0 : Int)).length ((x1.Peers.length : Int).toNat)]) rfl rfl rfl info31 rfl rfl rfl rfl hrow962 (OD.fnone h948 (OD.bS h948 hp49)) (win_fit2 hwin963 (Nat.le_of_ble_eq_true rfl) rfl (Nat.le_of_ble_eq_true rfl)) (by have := (OD.id_lt h948 (OD.bS h948 hp49)).1; omega) (one1 rfl) rfl (fun H973 hS974 ho975 hk976 => ?_)
 have ho977 := (hk976 (n0 + 1) (fun hj => ap951 (by rw [hj]; exact (OD.bS h948 hp49)))).trans ho939
 have ho978 := (hk976 n0 (fun hj => ap952 (by rw [hj]; exact (OD.bS h948 hp49)))).trans ho940
 have ho979 := (hk976 p0 (fun hj => ap953 (by rw [hj]; exact (OD.bS h948 hp49)))).trans ho941
 have h980 := OW.keep h942 (Nat.le_refl _) (fun i hi => hk976 i (fun hj => (Ap.sym ap954) i hi (by rw [hj]; exact (OD.bS h948 hp49))))
 have h981 := OW.keep h943 (Nat.le_refl _) (fun i hi => hk976 i (fun hj => (Ap.sym ap955) i hi (by rw [hj]; exact (OD.bS h948 hp49))))
 have h982 := OW.keep h944 (Nat.le_refl _) (fun i hi => hk976 i (fun hj => (Ap.sym ap956) i hi (by rw [hj]; exact (OD.bS h948 hp49))))
 have h983 := OW.keep h945 (Nat.le_refl _) (fun i hi => hk976 i (fun hj => (Ap.sym ap957) i hi (by rw [hj]; exact (OD.bS h948 hp49))))
 have h984 := RW.keep h946 (Nat.le_refl _) (fun i hi => hk976 i (fun hj => (Ap.sym (Ap.or hs950 (Ap.or hs920 (Ap.sym ap881) (Ap.sym ap884)) (Ap.fresh (OW.lb h894) (RW.hb rw877)))) i hi (by rw [hj]; exact (OD.bS h948 hp49))))
 obtain ⟨S986, hs987, h985⟩ := GPeer.set_Match h948 hp49 hx959 hrow962 hwin963 (OW.lower h945 (by omega)) (fun i hi => (Ap.sym ap957) i hi) z00 z00 ho975 hk976
 rw [setI_setI] at h985
 have hl988 : x1.Peers.length = (setI x1.Peers x18 ({ Up := x46.Up, Term := x46.Term, Vote := x46.Vote, Commit := x46.Commit, Role := 2, Log := x46.Log, Votes := [], Next := x886, Match := (List.replicate (x1.Peers.length : Int).toNat (0 : Int)) } : GPeer)).length := hl958.trans (by rw [setI_length, setI_length])
 have hx989 : idx (setI x1.Peers x18 ({ Up := x46.Up, Term := x46.Term, Vote := x46.Vote, Commit := x46.Commit, Role := 2, Log := x46.Log, Votes := [], Next := x886, Match := (List.replicate (x1.Peers.length : Int).toNat (0 : Int)) } : GPeer)) x18 = some ({ Up := x46.Up, Term := x46.Term, Vote := x46.Vote, Commit := x46.Commit, Role := 2, Log := x46.Log, Votes := [], Next := x886, Match := (List.replicate (x1.Peers.length : Int).toNat (0 : Int)) } : GPeer) := idx_setI_same hx46
 with_reducible refine WL.nil ⟨rfl, ?_⟩
 refine WLI.nil (fun h => by cases h) ?_
 refine Ex.thn_norm ?_
 with_reducible refine W.seq ?_
 refine W.regionD [0, 1, 2, 3, 4, 5, 6, 7, 8, 9, 10, 11] [false, false, false, false, false, false, false, false, false, false, false, true] rfl rfl (by kernel_rfl) (by kernel_rfl) (by (conv => lhs; simp only [List.map_cons, List.map_nil, List.getD_cons_zero, List.getD_cons_succ]) <;> rfl) ?_
 refine WL.move .r rfl rfl rfl rfl ?_
 refine WL.nilCheck .r rfl rfl rfl rfl ?_
 refine WL.fieldAddr .r rfl rfl rfl Try.underlying42 rfl info31 rfl rfl ?_
 obtain ⟨c990, ecs991, hrow992, hwin993, hb994⟩ := OD.get h985 hp49 hx989
 obtain ⟨a995, cap996, a997, cap998, a999, cap1000, a1001, cap1002, rfl⟩ := GPeer.ofB hb994
 obtain ⟨S1003, hs1004, hs1005, hs1006, h1007, h1008⟩ := GPeer.open_Match h985 hp49 hx989 hrow992 hwin993 (List.forall_mem_nil _)
 refine WL.load1 .r rfl rfl rfl Try.underlying31 rfl rfl hrow992 ((win_get (m := 8) hwin993 (show (8 : Nat) < 9 by decide)).trans rfl) ?_
 refine WL.load1 .r rfl rfl rfl Try.underlying3 rfl rfl ho977 rfl ?_
 refine WL.move .r rfl rfl rfl rfl ?_
 refine WL.nilCheck .r rfl rfl rfl rfl ?_
 refine WL.fieldAddr .r rfl rfl rfl Try.underlying42 rfl info28 rfl rfl ?_
 obtain ⟨S1010, hs1011, hs1012, hs1013, h1014, h1015⟩ := GPeer.open_Log h1008 hp49 hx989 hrow992 hwin993 (List.forall_mem_cons.2 ⟨fun h => absurd (show (8 : Nat) = 5 from h.2) (by decide), List.forall_mem_nil _⟩)
 refine WL.load1 .r rfl rfl rfl Try.underlying28 rfl rfl hrow992 ((win_get (m := 5) hwin993 (show (5 : Nat) < 9 by decide)).trans rfl) ?_
 refine WL.len .r rfl rfl rfl Try.underlying28 rfl ?_
 obtain ⟨x1017, hx1017, hr⟩ := bnd_some hr
 refine GL.indexO .r rfl rfl rfl Try.underlying31 info3 rfl rfl h1007 rfl hx1017 (fun b1018 kp1019 c1020 ecs1021 hid1025 hrow1022 hwin1023 hR1024 hup1026 => ?_)
 have hcs : _ = ([.int .i64 x1017] : List Value) := hR1024
 subst hcs
 refine GL.store hS974 .w (vc := [.int .i64 (x46.Log.length : Int)]) rfl rfl rfl info3 rfl rfl rfl rfl hrow1022 (OW.fnone h1007 hid1025) (by first | exact win_fit hwin1023 (Nat.le_of_ble_eq_true rfl) rfl (Nat.le_of_ble_eq_true rfl) | exact win_fit2 hwin1023 (Nat.le_of_ble_eq_true rfl) rfl (Nat.le_of_ble_eq_true rfl) | exact win_fit3 hwin1023 (Nat.le_of_ble_eq_true rfl) rfl (Nat.le_of_ble_eq_true rfl)) (OW.id_lt h1007 hid1025).1 (one1 rfl) rfl (fun H1027 hS1028 ho1029 hk1030 => ?_)
 have h1031 := hup1026 0 [.int .i64 (x46.Log.length : Int)] ((x46.Log.length : Int) : Int) H1027 (Nat.le_of_ble_eq_true rfl) rfl ho1029
 have ho1032 := (hk1030 (n0 + 1) (fun hj => (Ap.sub0 hs1005 (Ap.or0 hs987 ap951 (Ap.fresh0 (OW.lb hO854) (by have := lt754; omega)))) (by rw [hj]; exact hid1025))).trans ho977
 have ho1033 := (hk1030 n0 (fun hj => (Ap.sub0 hs1005 (Ap.or0 hs987 ap952 (Ap.fresh0 (OW.lb hO854) (by have := lt755; omega)))) (by rw [hj]; exact hid1025))).trans ho978
 have ho1034 := (hk1030 p0 (fun hj => (Ap.sub0 hs1005 (Ap.or0 hs987 ap953 (Ap.fresh0 (OW.lb hO854) (by have := lt756; omega)))) (by rw [hj]; exact hid1025))).trans ho979
 have h1035 := OD.keep h1015 (Nat.le_refl _) (fun i hi => hk1030 i (fun hj => (Ap.sub hs1011 (Ap.sym hs1006)) i hi (by rw [hj]; exact hid1025)))
 have h1036 := OW.keep h980 (Nat.le_refl _) (fun i hi => hk1030 i (fun hj => (Ap.sym (Ap.sub hs1005 (Ap.or hs987 ap954 (Ap.fresh (OW.lb hO854) (OW.hb h839))))) i hi (by rw [hj]; exact hid1025)))
 have h1037 := OW.keep h981 (Nat.le_refl _) (fun i hi => hk1030 i (fun hj => (Ap.sym (Ap.sub hs1005 (Ap.or hs987 ap955 (Ap.fresh (OW.lb hO854) (OW.hb h840))))) i hi (by rw [hj]; exact hid1025)))
 have h1038 := OW.keep h982 (Nat.le_refl _) (fun i hi => hk1030 i (fun hj => (Ap.sym (Ap.sub hs1005 (Ap.or hs987 ap956 (Ap.fresh (OW.lb hO854) (OW.hb h842))))) i hi (by rw [hj]; exact hid1025)))
 have h1039 := OW.keep h1014 (Nat.le_refl _) (fun i hi => hk1030 i (fun hj => (Ap.sub hs1012 (Ap.sym hs1006)) i hi (by rw [hj]; exact hid1025)))
 have hl1040 : (List.replicate (x1.Peers.length : Int).toNat (0 : Int)).length = (setI (List.replicate (x1.Peers.length : Int).toNat (0 : Int)) x18 (x46.Log.length : Int)).length := (setI_length _ _ _).symm
 refine WL.nil ?_
 refine Ex.thn_norm ?_
 with_reducible refine W.seq ?_
 with_reducible refine W.region ?_
 refine WL.load1 .nil rfl rfl rfl Try.underlying60 rfl rfl ho1033 rfl ?_
 refine WL.load1 .nil rfl rfl rfl Try.underlying3 rfl rfl ho1032 rfl ?_
 obtain ⟨S1041, hs1042, h1043⟩ := GPeer.close0_Log h1035 hx989 h1039
 have ap1044 : ¬ S1041 (n0 + 1) := Ap.or0 hs1042 (Ap.sub0 hs1011 (Ap.sub0 hs1004 (Ap.or0 hs987 ap951 (Ap.fresh0 (OW.lb hO854) (by have := lt754; omega))))) (Ap.sub0 hs1012 (Ap.sub0 hs1004 (Ap.or0 hs987 ap951 (Ap.fresh0 (OW.lb hO854) (by have := lt754; omega)))))
 have ap1045 : ¬ S1041 n0 := Ap.or0 hs1042 (Ap.sub0 hs1011 (Ap.sub0 hs1004 (Ap.or0 hs987 ap952 (Ap.fresh0 (OW.lb hO854) (by have := lt755; omega))))) (Ap.sub0 hs1012 (Ap.sub0 hs1004 (Ap.or0 hs987 ap952 (Ap.fresh0 (OW.lb hO854) (by have := lt755; omega)))))
 have ap1046 : ¬ S1041 p0 := Ap.or0 hs1042 (Ap.sub0 hs1011 (Ap.sub0 hs1004 (Ap.or0 hs987 ap953 (Ap.fresh0 (OW.lb hO854) (by have := lt756; omega))))) (Ap.sub0 hs1012 (Ap.sub0 hs1004 (Ap.or0 hs987 ap953 (Ap.fresh0 (OW.lb hO854) (by have := lt756; omega)))))
 have ap1047 : ∀ b, S1041 b → idOf (.slice a7 x1.Net.length cap8) ≠ some b := Ap.or hs1042 (Ap.sub hs1011 (Ap.sub hs1004 (Ap.or hs987 ap954 (Ap.fresh (OW.lb hO854) (OW.hb h839))))) (Ap.sub hs1012 (Ap.sub hs1004 (Ap.or hs987 ap954 (Ap.fresh (OW.lb hO854) (OW.hb h839)))))
 have ap1048 : ∀ b, S1041 b → idOf (.slice a11 x1.Chosen.length cap12) ≠ some b := Ap.or hs1042 (Ap.sub hs1011 (Ap.sub hs1004 (Ap.or hs987 ap955 (Ap.fresh (OW.lb hO854) (OW.hb h840))))) (Ap.sub hs1012 (Ap.sub hs1004 (Ap.or hs987 ap955 (Ap.fresh (OW.lb hO854) (OW.hb h840)))))
 have ap1049 : ∀ b, S1041 b → idOf (.slice (some ⟨n726, 0, none⟩) ([((x46.Log.length : Int) + 1)] : List Int).length 1) ≠ some b := Ap.or hs1042 (Ap.sub hs1011 (Ap.sub hs1004 (Ap.or hs987 ap956 (Ap.fresh (OW.lb hO854) (OW.hb h842))))) (Ap.sub hs1012 (Ap.sub hs1004 (Ap.or hs987 ap956 (Ap.fresh (OW.lb hO854) (OW.hb h842)))))
 obtain ⟨S1050, hs1051, h1052⟩ := GPeer.close_Match h1043 hx989 hl1040 h1031
 rw [setI_setI] at h1052
 have hl1053 : x1.Peers.length = (setI x1.Peers x18 ({ Up := x46.Up, Term := x46.Term, Vote := x46.Vote, Commit := x46.Commit, Role := 2, Log := x46.Log, Votes := [], Next := x886, Match := (setI (List.replicate (x1.Peers.length : Int).toNat (0 : Int)) x18 (x46.Log.length : Int)) } : GPeer)).length := hl988.trans (by rw [setI_length, setI_length])
 have hx1054 : idx (setI x1.Peers x18 ({ Up := x46.Up, Term := x46.Term, Vote := x46.Vote, Commit := x46.Commit, Role := 2, Log := x46.Log, Votes := [], Next := x886, Match := (setI (List.replicate (x1.Peers.length : Int).toNat (0 : Int)) x18 (x46.Log.length : Int)) } : GPeer)) x18 = some ({ Up := x46.Up, Term := x46.Term, Vote := x46.Vote, Commit := x46.Commit, Role := 2, Log := x46.Log, Votes := [], Next := x886, Match := (setI (List.replicate (x1.Peers.length : Int).toNat (0 : Int)) x18 (x46.Log.length : Int)) } : GPeer) := idx_setI_same hx46
 obtain ⟨x1055, hx1055, hr⟩ := bnd_some hr
 refine GL.callIO g .nil (fun i => (F728 i).isSome = true ∨ i = p0 ∨ S1050 i ∨ idOf (.slice a7 x1.Net.length cap8) = some i ∨ idOf (.slice a11 x1.Chosen.length cap12) = some i) rfl rfl rfl rfl rfl rfl Try.func60 rfl rfl (Nat.le_refl _) hS1028.lo (f_impl_Cluster_commit_k (x1 := ({ Peers := (setI x1.Peers x18 ({ Up := x46.Up, Term := x46.Term, Vote := x46.Vote, Commit := x46.Commit, Role := 2, Log := x46.Log, Votes := [], Next := x886, Match := (setI (List.replicate (x1.Peers.length : Int).toNat (0 : Int)) x18 (x46.Log.length : Int)) } : GPeer)), Net := x1.Net, Chosen := x1.Chosen, Conflict := x1.Conflict } : GCluster)) g (St.vis hS1028 (fun i hi => .inl hi)) (by rw [← hl1053]; exact vis_get ho1034 (.inr (.inl rfl))) fo741 lo17 (OD.head hl1053 (OD.vis h1052 (fun i hi => (.inr (.inr (.inl hi)))))) (OW.vis h1036 (fun i hi => (.inr (.inr (.inr (.inl hi)))))) (OW.vis h1037 (fun i hi => (.inr (.inr (.inr (.inr (hi))))))) (Ap.or0 hs1051 ap1046 (Ap.sub0 hs1005 (Ap.or0 hs987 ap953 (Ap.fresh0 (OW.lb hO854) (by have := lt756; omega))))) ap747 (Ap.sym (Ap.or hs1051 ap1047 (Ap.sub hs1005 (Ap.or hs987 ap954 (Ap.fresh (OW.lb hO854) (OW.hb h839)))))) ap751 (Ap.sym (Ap.or hs1051 ap1048 (Ap.sub hs1005 (Ap.or hs987 ap955 (Ap.fresh (OW.lb hO854) (OW.hb h840)))))) ap753 hx1055) (fun v n1056 H1057 H1058 hn1059 hp1060 hle1061 hnew1062 hk1063 hd1064 => ?_)
 obtain ⟨F1075, S1066, a1068, cap1069, a1071, cap1072, hX1076, hS1074, ho1077, rfl, h1065, hl1067, h1070, h1073, ap1078, ap1079, ap1080, ap1081, ap1082, ap1083⟩ := hp1060
 have hS1084 : St lo n1056 H1057 _ := ⟨hS1074.lo, fun i hi => (hnew1062 i (by omega)).trans (hS1074.hb i hi), hS1074.fh.trans hle1061⟩
 have ho1085 := (hk1063 _ (by have := lt754; omega) (fun hs => by
      rcases hs with h | h | h | h | h
      · rw [fo733] at h; cases h
      · omega
      · exact (Ap.or0 hs1051 ap1044 (Ap.sub0 hs1005 (Ap.or0 hs987 ap951 (Ap.fresh0 (OW.lb hO854) (by have := lt754; omega))))) h
      · exact ap745 h
      · exact ap749 h)).trans ho1032
 have ho1086 := (hk1063 _ (by have := lt755; omega) (fun hs => by
      rcases hs with h | h | h | h | h
      · rw [fo735] at h; cases h
      · omega
      · exact (Ap.or0 hs1051 ap1045 (Ap.sub0 hs1005 (Ap.or0 hs987 ap952 (Ap.fresh0 (OW.lb hO854) (by have := lt755; omega))))) h
      · exact ap746 h
      · exact ap750 h)).trans ho1033
 have h1087 := OW.keep (n' := n1056) h1038 (by omega) (fun i hi => hk1063 i (OW.id_lt h1038 hi).2 (fun hs => by
      rcases hs with h | h | h | h | h
      · rw [(OW.fnone h1038 hi)] at h; cases h
      · exact (Ap.fresh0 (OW.lb hO833) (by have := lt756; omega)) (h ▸ hi)
      · exact (Ap.or hs1051 ap1049 (Ap.sub hs1005 (Ap.or hs987 ap956 (Ap.fresh (OW.lb hO854) (OW.hb h842))))) _ h hi
      · exact (Ap.sym (Ap.fresh (OW.lb hO833) (OW.hb h804))) _ h hi
      · exact (Ap.sym (Ap.fresh (OW.lb hO833) (OW.hb h805))) _ h hi))
 have fo1088 := (hX1076.eq _ (by have := lt754; omega)).trans fo733
 have fo1089 := (hX1076.eq _ (by have := lt755; omega)).trans fo735
 have fo1090 := (hX1076.eq _ (by have := lt756; omega)).trans fo741
 have h1091 := OW.keepF h1087 hX1076.sub (fun i hi => (hX1076.eq i (by have := (OW.hb h1038) i hi; omega)).trans (OW.fnone h1087 hi))
 have hE1092 := (hE730.up (n' := n887) (by omega)).trans hX1076
 have ho1093 := hle1061 _ _ ho1077
 have h1094 := OD.le h1065 hle1061
 have hl1095 : x1.Peers.length = x1055.Peers.length := hl1053.trans hl1067
 rw [← hl1053] at h1094
 have h1097 := OW.le h1070 hle1061
 have h1099 := OW.le h1073 hle1061
 rw [← hl1053] at ho1093
 have ap1100 : ¬ S1066 (n0 + 1) := fun hj => (OD.after h1065 hd1064 hj).elim (fun h => by have := lt754; omega) (fun hs => by
      rcases hs with h | h | h | h | h
      · rw [fo733] at h; cases h
      · omega
      · exact (Ap.or0 hs1051 ap1044 (Ap.sub0 hs1005 (Ap.or0 hs987 ap951 (Ap.fresh0 (OW.lb hO854) (by have := lt754; omega))))) h
      · exact ap745 h
      · exact ap749 h)
 have ap1101 : ¬ S1066 n0 := fun hj => (OD.after h1065 hd1064 hj).elim (fun h => by have := lt755; omega) (fun hs => by
      rcases hs with h | h | h | h | h
      · rw [fo735] at h; cases h
      · omega
      · exact (Ap.or0 hs1051 ap1045 (Ap.sub0 hs1005 (Ap.or0 hs987 ap952 (Ap.fresh0 (OW.lb hO854) (by have := lt755; omega))))) h
      · exact ap746 h
      · exact ap750 h)
 have ap1102 : ∀ b, S1066 b → idOf (.slice (some ⟨n726, 0, none⟩) ([((x46.Log.length : Int) + 1)] : List Int).length 1) ≠ some b := fun b hj hi => (OD.after h1065 hd1064 hj).elim (fun h => by have := (OW.hb h1038) b hi; omega) (fun hs => by
      rcases hs with h | h | h | h | h
      · rw [(OW.fnone h1038 hi)] at h; cases h
      · exact (Ap.fresh0 (OW.lb hO833) (by have := lt756; omega)) (h ▸ hi)
      · exact (Ap.or hs1051 ap1049 (Ap.sub hs1005 (Ap.or hs987 ap956 (Ap.fresh (OW.lb hO854) (OW.hb h842))))) _ h hi
      · exact (Ap.sym (Ap.fresh (OW.lb hO833) (OW.hb h804))) _ h hi
      · exact (Ap.sym (Ap.fresh (OW.lb hO833) (OW.hb h805))) _ h hi)
 have ap1103 : idOf (.slice a1068 x1055.Net.length cap1069) ≠ some (n0 + 1) := fun hj => (OW.after h1070 hd1064 hj).elim (fun h => by have := lt754; omega) (fun hs => by
      rcases hs with h | h | h | h | h
      · rw [fo733] at h; cases h
      · omega
      · exact (Ap.or0 hs1051 ap1044 (Ap.sub0 hs1005 (Ap.or0 hs987 ap951 (Ap.fresh0 (OW.lb hO854) (by have := lt754; omega))))) h
      · exact ap745 h
      · exact ap749 h)
 have ap1104 : idOf (.slice a1068 x1055.Net.length cap1069) ≠ some n0 := fun hj => (OW.after h1070 hd1064 hj).elim (fun h => by have := lt755; omega) (fun hs => by
      rcases hs with h | h | h | h | h
      · rw [fo735] at h; cases h
      · omega
      · exact (Ap.or0 hs1051 ap1045 (Ap.sub0 hs1005 (Ap.or0 hs987 ap952 (Ap.fresh0 (OW.lb hO854) (by have := lt755; omega))))) h
      · exact ap746 h
      · exact ap750 h)
 have ap1105 : ∀ b, idOf (.slice a1068 x1055.Net.length cap1069) = some b → idOf (.slice (some ⟨n726, 0, none⟩) ([((x46.Log.length : Int) + 1)] : List Int).length 1) ≠ some b := fun b hj hi => (OW.after h1070 hd1064 hj).elim (fun h => by have := (OW.hb h1038) b hi; omega) (fun hs => by
      rcases hs with h | h | h | h | h
      · rw [(OW.fnone h1038 hi)] at h; cases h
      · exact (Ap.fresh0 (OW.lb hO833) (by have := lt756; omega)) (h ▸ hi)
      · exact (Ap.or hs1051 ap1049 (Ap.sub hs1005 (Ap.or hs987 ap956 (Ap.fresh (OW.lb hO854) (OW.hb h842))))) _ h hi
      · exact (Ap.sym (Ap.fresh (OW.lb hO833) (OW.hb h804))) _ h hi
      · exact (Ap.sym (Ap.fresh (OW.lb hO833) (OW.hb h805))) _ h hi)
 have ap1106 : idOf (.slice a1071 x1055.Chosen.length cap1072) ≠ some (n0 + 1) := fun hj => (OW.after h1073 hd1064 hj).elim (fun h => by have := lt754; omega) (fun hs => by
      rcases hs with h | h | h | h | h
      · rw [fo733] at h; cases h
      · omega
      · exact (Ap.or0 hs1051 ap1044 (Ap.sub0 hs1005 (Ap.or0 hs987 ap951 (Ap.fresh0 (OW.lb hO854) (by have := lt754; omega))))) h
      · exact ap745 h
      · exact ap749 h)
 have ap1107 : idOf (.slice a1071 x1055.Chosen.length cap1072) ≠ some n0 := fun hj => (OW.after h1073 hd1064 hj).elim (fun h => by have := lt755; omega) (fun hs => by
      rcases hs with h | h | h | h | h
      · rw [fo735] at h; cases h
      · omega
      · exact (Ap.or0 hs1051 ap1045 (Ap.sub0 hs1005 (Ap.or0 hs987 ap952 (Ap.fresh0 (OW.lb hO854) (by have := lt755; omega))))) h
      · exact ap746 h
      · exact ap750 h)
 have ap1108 : ∀ b, idOf (.slice a1071 x1055.Chosen.length cap1072) = some b → idOf (.slice (some ⟨n726, 0, none⟩) ([((x46.Log.length : Int) + 1)] : List Int).length 1) ≠ some b := fun b hj hi => (OW.after h1073 hd1064 hj).elim (fun h => by have := (OW.hb h1038) b hi; omega) (fun hs => by
      rcases hs with h | h | h | h | h
      · rw [(OW.fnone h1038 hi)] at h; cases h
      · exact (Ap.fresh0 (OW.lb hO833) (by have := lt756; omega)) (h ▸ hi)
      · exact (Ap.or hs1051 ap1049 (Ap.sub hs1005 (Ap.or hs987 ap956 (Ap.fresh (OW.lb hO854) (OW.hb h842))))) _ h hi
      · exact (Ap.sym (Ap.fresh (OW.lb hO833) (OW.hb h804))) _ h hi
      · exact (Ap.sym (Ap.fresh (OW.lb hO833) (OW.hb h805))) _ h hi)
 have hlon1056 := hS1084.lo
 have lt1109 := hS1084.lt ho1085
 have lt1110 := hS1084.lt ho1086
 have lt1111 := hS1084.lt ho1093
 refine WL.nil ?_
 refine Ex.thn_norm ?_
 with_reducible refine W.region ?_
 refine WL.load1 .nil rfl rfl rfl Try.underlying60 rfl rfl ho1086 rfl ?_
 refine WL.load1 .nil rfl rfl rfl Try.underlying3 rfl rfl ho1085 rfl ?_
 refine WL.mkFunc .nil rfl rfl rfl rfl rfl ?_
 refine GL.callIn (args := [.pointer (some ⟨p0, 0, none⟩), .int .i64 x18, .func (.func 113) [].toArray [.pointer (some ⟨n0, 0, none⟩), .pointer (some ⟨(n0 + 1), 0, none⟩)].toArray]) .nil lo rfl rfl rfl rfl rfl rfl Try.func90 rfl rfl (Nat.le_refl _) hS1084.lo ?_
 refine C.body Try.func90 rfl rfl ?_
 with_reducible refine W.seq ?_
 with_reducible refine W.region ?_
 refine WL.move .nil rfl rfl rfl rfl ?_
 refine WL.nilCheck .nil rfl rfl rfl rfl ?_
 refine WL.fieldAddr .nil rfl rfl rfl Try.underlying30 rfl info26 rfl rfl ?_
 refine WL.load1 .nil rfl rfl rfl Try.underlying26 rfl rfl ho1093 rfl ?_
 refine WL.len .nil rfl rfl rfl Try.underlying26 rfl ?_
 refine WL.move .nil rfl rfl rfl rfl ?_
 refine WL.nil ?_
 refine Ex.thn_norm ?_
 with_reducible refine W.block ?_
 refine W.loopF (fun k3 fr n H => ∃ (x1489 : Int) (xs1494 : (List GPeer)) (S1497 : Nat → Prop) (a1498 : Option Addr) (cap1499 : Nat) (xs1500 : (List GMsg)) (a1503 : Option Addr) (cap1504 : Nat) (xs1505 : (List GRec)) (x1508 : Bool) (F : Heap), fr = [(1, .int .i64 x18), (2, .func (.func 113) [].toArray [.pointer (some ⟨n0, 0, none⟩), .pointer (some ⟨(n0 + 1), 0, none⟩)].toArray), (11, .int .i64 (x1.Peers.length : Int)), (12, .int .i64 x1489)] ∧ St lo n H F ∧ Ext n0 F0 n F ∧ H (n0 + 1) = some (.row 1 [.int .i64 x18]) ∧ F (n0 + 1) = none ∧ H n0 = some (.row 1 [.pointer (some ⟨p0, 0, none⟩)]) ∧ F n0 = none ∧ H p0 = some (.row ez0 [.slice a2 x1.Peers.length cap3, .slice a1498 xs1500.length cap1499, .slice a1503 xs1505.length cap1504, .bool x1508]) ∧ F p0 = none ∧ OD lo n H F S1497 [] (.slice a2 x1.Peers.length cap3) xs1494 ∧ x1.Peers.length = xs1494.length ∧ OW lo n H F (.slice a1498 xs1500.length cap1499) xs1500 ∧ OW lo n H F (.slice a1503 xs1505.length cap1504) xs1505 ∧ ¬ S1497 (n0 + 1) ∧ ¬ S1497 n0 ∧ ¬ S1497 p0 ∧ idOf (.slice a1498 xs1500.length cap1499) ≠ some (n0 + 1) ∧ idOf (.slice a1498 xs1500.length cap1499) ≠ some n0 ∧ idOf (.slice a1498 xs1500.length cap1499) ≠ some p0 ∧ (∀ b, idOf (.slice a1498 xs1500.length cap1499) = some b → ¬ S1497 b) ∧ idOf (.slice a1503 xs1505.length cap1504) ≠ some (n0 + 1) ∧ idOf (.slice a1503 xs1505.length cap1504) ≠ some n0 ∧ idOf (.slice a1503 xs1505.length cap1504) ≠ some p0 ∧ (∀ b, idOf (.slice a1503 xs1505.length cap1504) = some b → ¬ S1497 b) ∧ (∀ b, idOf (.slice a1503 xs1505.length cap1504) = some b → idOf (.slice a1498 xs1500.length cap1499) ≠ some b) ∧ f_impl_Cluster_elect_L3 x1 x18 k3 x1489 xs1494 xs1500 xs1505 x1508 = some res) BIG (fr0 := [(1, .int .i64 x18), (2, .func (.func 113) [].toArray [.pointer (some ⟨n0, 0, none⟩), .pointer (some ⟨(n0 + 1), 0, none⟩)].toArray), (11, .int .i64 (x1.Peers.length : Int)), (12, .int .i64 0)]) (Fr.le_cons rfl (Fr.le_cons rfl (Fr.le_cons rfl (Fr.le_cons rfl Fr.le_nil)))) ?_ ?_ ?_
 {
 exact ⟨0, x1055.Peers, S1066, a1068, cap1069, x1055.Net, a1071, cap1072, x1055.Chosen, x1055.Conflict, F1075, rfl, hS1084, hE1092, ho1085, fo1088, ho1086, fo1089, ho1093, fo1090, h1094, hl1095, h1097, h1099, ap1100, ap1101, ap1078, ap1103, ap1104, ap1079, ap1081, ap1106, ap1107, ap1080, ap1082, ap1083, hr⟩
 }
 {
 intro fr n H hI
 obtain ⟨x1489, xs1494, S1497, a1498, cap1499, xs1500, a1503, cap1504, xs1505, x1508, F1486, hfr, hS1487, hE1488, ho1490, fo1491, ho1492, fo1493, ho1509, fo1510, h1495, hl1496, h1501, h1506, ap1511, ap1512, ap1513, ap1514, ap1515, ap1516, ap1517, ap1518, ap1519, ap1520, ap1521, ap1522, hr⟩ := hI
 rw [f_impl_Cluster_elect_L3] at hr
 cases hr
 }
 {
 intro k3 _ n1484 H1485 hI
 obtain ⟨x1489, xs1494, S1497, a1498, cap1499, xs1500, a1503, cap1504, xs1505, x1508, F1486, rfl, hS1487, hE1488, ho1490, fo1491, ho1492, fo1493, ho1509, fo1510, h1495, hl1496, h1501, h1506, ap1511, ap1512, ap1513, ap1514, ap1515, ap1516, ap1517, ap1518, ap1519, ap1520, ap1521, ap1522, hr⟩ := hI
 have lt1523 := hS1487.lt ho1490
 have lt1524 := hS1487.lt ho1492
 have lt1525 := hS1487.lt ho1509
 have hlen1484 := hE1488.le
 have hlon1484 := hS1487.lo
 rw [f_impl_Cluster_elect_L3] at hr
 with_reducible refine W.seq ?_
 with_reducible refine W.region ?_
 refine WL.bin .nil rfl rfl rfl rfl rfl rfl ?_
 refine WL.nil ?_
 refine Ex.thn_norm ?_
 with_reducible refine W.seq ?_
 refine W.condD rfl (fun hc1527 => ?_) (fun hc1527 => ?_)
 {
 replace hr := ite_pos hr hc1527
 with_reducible refine W.skip ?_
 refine Ex.thn_norm ?_
 with_reducible refine W.seq ?_
 refine W.cut (fun fr n H => ∃ (xs1590 : (List GPeer)) (S1593 : Nat → Prop) (a1594 : Option Addr) (cap1595 : Nat) (xs1596 : (List GMsg)) (a1599 : Option Addr) (cap1600 : Nat) (xs1601 : (List GRec)) (x1604 : Bool) (F : Heap), fr = [(1, .int .i64 x18), (2, .func (.func 113) [].toArray [.pointer (some ⟨n0, 0, none⟩), .pointer (some ⟨(n0 + 1), 0, none⟩)].toArray), (11, .int .i64 (x1.Peers.length : Int)), (12, .int .i64 x1489)] ∧ St lo n H F ∧ Ext n0 F0 n F ∧ H (n0 + 1) = some (.row 1 [.int .i64 x18]) ∧ F (n0 + 1) = none ∧ H n0 = some (.row 1 [.pointer (some ⟨p0, 0, none⟩)]) ∧ F n0 = none ∧ H p0 = some (.row ez0 [.slice a2 x1.Peers.length cap3, .slice a1594 xs1596.length cap1595, .slice a1599 xs1601.length cap1600, .bool x1604]) ∧ F p0 = none ∧ OD lo n H F S1593 [] (.slice a2 x1.Peers.length cap3) xs1590 ∧ x1.Peers.length = xs1590.length ∧ OW lo n H F (.slice a1594 xs1596.length cap1595) xs1596 ∧ OW lo n H F (.slice a1599 xs1601.length cap1600) xs1601 ∧ ¬ S1593 (n0 + 1) ∧ ¬ S1593 n0 ∧ ¬ S1593 p0 ∧ idOf (.slice a1594 xs1596.length cap1595) ≠ some (n0 + 1) ∧ idOf (.slice a1594 xs1596.length cap1595) ≠ some n0 ∧ idOf (.slice a1594 xs1596.length cap1595) ≠ some p0 ∧ (∀ b, idOf (.slice a1594 xs1596.length cap1595) = some b → ¬ S1593 b) ∧ idOf (.slice a1599 xs1601.length cap1600) ≠ some (n0 + 1) ∧ idOf (.slice a1599 xs1601.length cap1600) ≠ some n0 ∧ idOf (.slice a1599 xs1601.length cap1600) ≠ some p0 ∧ (∀ b, idOf (.slice a1599 xs1601.length cap1600) = some b → ¬ S1593 b) ∧ (∀ b, idOf (.slice a1599 xs1601.length cap1600) = some b → idOf (.slice a1594 xs1596.length cap1595) ≠ some b) ∧ f_impl_Cluster_elect_J4 x1489 (f_impl_Cluster_elect_L3 x1 x18 k3) xs1590 xs1596 xs1601 x1604 = some res) ?_ ?_
 {
 with_reducible refine W.block ?_
 with_reducible refine W.seq ?_
 with_reducible refine W.region ?_
 refine WL.move .nil rfl rfl rfl rfl ?_
 refine WL.assign .nil rfl rfl rfl rfl ?_
 refine WL.nil ?_
 refine Ex.thn_norm ?_
 with_reducible refine W.seq ?_
 with_reducible refine W.region ?_
 refine WL.move .nil rfl rfl rfl rfl ?_
 refine WL.move .nil rfl rfl rfl rfl ?_
 refine WL.bin .nil rfl rfl rfl rfl rfl rfl ?_
 refine WL.nil ?_
 refine Ex.thn_norm ?_
 refine W.condN rfl (fun hc1623 => ?_) (fun hc1623 => ?_)
 {
 replace hr := ite_neg hr hc1623
 with_reducible refine W.region ?_
 refine WL.move .nil rfl rfl rfl rfl ?_
 refine WL.move .nil rfl rfl rfl rfl ?_
 refine GL.callIn (args := [.int .i64 x1489, .pointer (some ⟨n0, 0, none⟩), .pointer (some ⟨(n0 + 1), 0, none⟩)]) .nil lo rfl rfl rfl rfl rfl rfl Try.func113 rfl rfl (Nat.le_refl _) hS1487.lo ?_
 refine C.body Try.func113 rfl rfl ?_
 with_reducible refine W.region ?_
 refine WL.load1 .nil rfl rfl rfl Try.underlying60 rfl rfl ho1492 rfl ?_
 refine WL.load1 .nil rfl rfl rfl Try.underlying3 rfl rfl ho1490 rfl ?_
 refine WL.move .nil rfl rfl rfl rfl ?_
 obtain ⟨x1624, hx1624, hr⟩ := bnd_some hr
 refine GL.callIO g .nil (fun i => (F1486 i).isSome = true ∨ i = p0 ∨ S1497 i ∨ idOf (.slice a1498 xs1500.length cap1499) = some i ∨ idOf (.slice a1503 xs1505.length cap1504) = some i) rfl rfl rfl rfl rfl rfl Try.func89 rfl rfl (Nat.le_refl _) hS1487.lo (f_impl_Cluster_records_k (x1 := ({ Peers := xs1494, Net := xs1500, Chosen := xs1505, Conflict := x1508 } : GCluster)) g (St.vis hS1487 (fun i hi => .inl hi)) (by rw [← hl1496]; exact vis_get ho1509 (.inr (.inl rfl))) fo1510 lo17 (OD.head hl1496 (OD.vis h1495 (fun i hi => (.inr (.inr (.inl hi)))))) (OW.vis h1501 (fun i hi => (.inr (.inr (.inr (.inl hi)))))) (OW.vis h1506 (fun i hi => (.inr (.inr (.inr (.inr (hi))))))) ap1513 ap1516 ap1517 ap1520 ap1521 ap1522 hx1624) (fun v n1625 H1626 H1627 hn1628 hp1629 hle1630 hnew1631 hk1632 hd1633 => ?_)
 obtain ⟨F1644, S1635, a1637, cap1638, a1640, cap1641, hX1645, hS1643, ho1646, rfl, h1634, hl1636, h1639, h1642, ap1647, ap1648, ap1649, ap1650, ap1651, ap1652⟩ := hp1629
 have hS1653 : St lo n1625 H1626 _ := ⟨hS1643.lo, fun i hi => (hnew1631 i (by omega)).trans (hS1643.hb i hi), hS1643.fh.trans hle1630⟩
 have ho1654 := (hk1632 _ (by have := lt1523; omega) (fun hs => by
      rcases hs with h | h | h | h | h
      · rw [fo1491] at h; cases h
      · omega
      · exact ap1511 h
      · exact ap1514 h
      · exact ap1518 h)).trans ho1490
 have ho1655 := (hk1632 _ (by have := lt1524; omega) (fun hs => by
      rcases hs with h | h | h | h | h
      · rw [fo1493] at h; cases h
      · omega
      · exact ap1512 h
      · exact ap1515 h
      · exact ap1519 h)).trans ho1492
 have fo1656 := (hX1645.eq _ (by have := lt1523; omega)).trans fo1491
 have fo1657 := (hX1645.eq _ (by have := lt1524; omega)).trans fo1493
 have fo1658 := (hX1645.eq _ (by have := lt1525; omega)).trans fo1510
 have hE1659 := (hE1488.up (n' := n1484) (by omega)).trans hX1645
 have ho1660 := hle1630 _ _ ho1646
 have h1661 := OD.le h1634 hle1630
 have hl1662 : x1.Peers.length = x1624.Peers.length := hl1496.trans hl1636
 rw [← hl1496] at h1661
 have h1664 := OW.le h1639 hle1630
 have h1666 := OW.le h1642 hle1630
 rw [← hl1496] at ho1660
 have ap1667 : ¬ S1635 (n0 + 1) := fun hj => (OD.after h1634 hd1633 hj).elim (fun h => by have := lt1523; omega) (fun hs => by
      rcases hs with h | h | h | h | h
      · rw [fo1491] at h; cases h
      · omega
      · exact ap1511 h
      · exact ap1514 h
      · exact ap1518 h)
 have ap1668 : ¬ S1635 n0 := fun hj => (OD.after h1634 hd1633 hj).elim (fun h => by have := lt1524; omega) (fun hs => by
      rcases hs with h | h | h | h | h
      · rw [fo1493] at h; cases h
      · omega
      · exact ap1512 h
      · exact ap1515 h
      · exact ap1519 h)
 have ap1669 : idOf (.slice a1637 x1624.Net.length cap1638) ≠ some (n0 + 1) := fun hj => (OW.after h1639 hd1633 hj).elim (fun h => by have := lt1523; omega) (fun hs => by
      rcases hs with h | h | h | h | h
      · rw [fo1491] at h; cases h
      · omega
      · exact ap1511 h
      · exact ap1514 h
      · exact ap1518 h)
 have ap1670 : idOf (.slice a1637 x1624.Net.length cap1638) ≠ some n0 := fun hj => (OW.after h1639 hd1633 hj).elim (fun h => by have := lt1524; omega) (fun hs => by
      rcases hs with h | h | h | h | h
      · rw [fo1493] at h; cases h
      · omega
      · exact ap1512 h
      · exact ap1515 h
      · exact ap1519 h)
 have ap1671 : idOf (.slice a1640 x1624.Chosen.length cap1641) ≠ some (n0 + 1) := fun hj => (OW.after h1642 hd1633 hj).elim (fun h => by have := lt1523; omega) (fun hs => by
      rcases hs with h | h | h | h | h
      · rw [fo1491] at h; cases h
      · omega
      · exact ap1511 h
      · exact ap1514 h
      · exact ap1518 h)
 have ap1672 : idOf (.slice a1640 x1624.Chosen.length cap1641) ≠ some n0 := fun hj => (OW.after h1642 hd1633 hj).elim (fun h => by have := lt1524; omega) (fun hs => by
      rcases hs with h | h | h | h | h
      · rw [fo1493] at h; cases h
      · omega
      · exact ap1512 h
      · exact ap1515 h
      · exact ap1519 h)
 have hlon1625 := hS1653.lo
 have lt1673 := hS1653.lt ho1654
 have lt1674 := hS1653.lt ho1655
 have lt1675 := hS1653.lt ho1660
 refine WL.nil ?_
 refine ⟨.inl rfl, _, .nil, ?_⟩
 refine WL.nil ?_
 with_reducible refine Ex.blk_norm ?_
 refine Ex.thn_norm ?_
 exact ⟨[(1, .int .i64 x18), (2, .func (.func 113) [].toArray [.pointer (some ⟨n0, 0, none⟩), .pointer (some ⟨(n0 + 1), 0, none⟩)].toArray), (11, .int .i64 (x1.Peers.length : Int)), (12, .int .i64 x1489)], (Fr.le_cons rfl (Fr.le_cons rfl (Fr.le_cons rfl (Fr.le_cons rfl Fr.le_nil)))), x1624.Peers, S1635, a1637, cap1638, x1624.Net, a1640, cap1641, x1624.Chosen, x1624.Conflict, F1644, rfl, hS1653, hE1659, ho1654, fo1656, ho1655, fo1657, ho1660, fo1658, h1661, hl1662, h1664, h1666, ap1667, ap1668, ap1647, ap1669, ap1670, ap1648, ap1650, ap1671, ap1672, ap1649, ap1651, ap1652, hr⟩
 }
 {
 replace hr := ite_pos hr hc1623
 with_reducible refine W.skip ?_
 with_reducible refine Ex.blk_norm ?_
 refine Ex.thn_norm ?_
 exact ⟨[(1, .int .i64 x18), (2, .func (.func 113) [].toArray [.pointer (some ⟨n0, 0, none⟩), .pointer (some ⟨(n0 + 1), 0, none⟩)].toArray), (11, .int .i64 (x1.Peers.length : Int)), (12, .int .i64 x1489)], (Fr.le_cons rfl (Fr.le_cons rfl (Fr.le_cons rfl (Fr.le_cons rfl Fr.le_nil)))), xs1494, S1497, a1498, cap1499, xs1500, a1503, cap1504, xs1505, x1508, F1486, rfl, hS1487, hE1488, ho1490, fo1491, ho1492, fo1493, ho1509, fo1510, h1495, hl1496, h1501, h1506, ap1511, ap1512, ap1513, ap1514, ap1515, ap1516, ap1517, ap1518, ap1519, ap1520, ap1521, ap1522, hr⟩
 }
 }
 {
 intro _ n1581 H1582 hI
 obtain ⟨xs1590, S1593, a1594, cap1595, xs1596, a1599, cap1600, xs1601, x1604, F1583, rfl, hS1584, hE1585, ho1586, fo1587, ho1588, fo1589, ho1605, fo1606, h1591, hl1592, h1597, h1602, ap1607, ap1608, ap1609, ap1610, ap1611, ap1612, ap1613, ap1614, ap1615, ap1616, ap1617, ap1618, hr⟩ := hI
 have lt1619 := hS1584.lt ho1586
 have lt1620 := hS1584.lt ho1588
 have lt1621 := hS1584.lt ho1605
 have hlen1581 := hE1585.le
 have hlon1581 := hS1584.lo
 unfold f_impl_Cluster_elect_J4 at hr
 with_reducible refine W.region ?_
 obtain ⟨hc1622, hr⟩ := chk_some hr
 refine WL.addI .nil rfl rfl rfl rfl rfl hc1622.1 hc1622.2 ?_
 refine WL.move .nil rfl rfl rfl rfl ?_
 refine WL.nil ?_
 refine Ex.thn_norm ?_
 exact ⟨[(1, .int .i64 x18), (2, .func (.func 113) [].toArray [.pointer (some ⟨n0, 0, none⟩), .pointer (some ⟨(n0 + 1), 0, none⟩)].toArray), (11, .int .i64 (x1.Peers.length : Int)), (12, .int .i64 (x1489 + 1))], (Fr.le_cons rfl (Fr.le_cons rfl (Fr.le_cons rfl (Fr.le_cons rfl Fr.le_nil)))), (x1489 + 1), xs1590, S1593, a1594, cap1595, xs1596, a1599, cap1600, xs1601, x1604, F1583, rfl, hS1584, hE1585, ho1586, fo1587, ho1588, fo1589, ho1605, fo1606, h1591, hl1592, h1597, h1602, ap1607, ap1608, ap1609, ap1610, ap1611, ap1612, ap1613, ap1614, ap1615, ap1616, ap1617, ap1618, hr⟩
 }
 }
 {
 replace hr := ite_neg hr hc1527
 with_reducible refine W.exit ?_
 with_reducible refine Ex.thn_ex ?_
 with_reducible refine Ex.thn_ex ?_
 with_reducible refine Ex.blk_here ?_
 refine ⟨.inl rfl, _, .nil, ?_⟩
 refine WL.nil ?_
 obtain rfl := Option.some.inj hr
 exact ⟨.inl rfl, _, .nil, ⟨F1486, S1497, a1498, cap1499, a1503, cap1504, (hE1488.up (by omega)), hS1487, ho1509, rfl, h1495, hl1496, h1501, h1506, ap1513, ap1516, ap1520, ap1517, ap1521, ap1522⟩⟩
 }
 }
 }
 }
 }
 }
theorem f_slices_Clone_implRec_k {Δ : Prims} (g : Env Try.prog Δ) {lo n0 : Nat} {H0 F0 : Heap} (hS : St lo n0 H0 F0) {a2 : Option Addr} {cap3 : Nat} {xs1 : List GRec} (h4 : SrcX H0 F0 (.slice a2 xs1.length cap3) xs1) {res : List GRec} (hr : f_slices_Clone_implRec xs1 = some res) :
    C Try.prog Δ n0 114 [.slice a2 xs1.length cap3] n0 H0 (fun v n H => ∃ (ra1 : Option Addr) (rcap2 : Nat), St n0 n H F0 ∧ v = .slice ra1 res.length rcap2 ∧ OW n0 n H F0 (.slice ra1 res.length rcap2) res) := by
  refine C.body Try.func114 rfl rfl ?_
  obtain ⟨hlen, hr⟩ := chk_some hr
  obtain rfl := Option.some.inj hr
  have hS0 : St n0 n0 H0 F0 := hS.low (Nat.le_refl _)
  with_reducible refine W.seq ?_
  with_reducible refine W.region ?_
  refine WL.assign .nil rfl rfl rfl rfl ?_
  refine WL.nil ?_
  refine Ex.thn_norm ?_
  with_reducible refine W.seq ?_
  with_reducible refine W.seq ?_
  with_reducible refine W.region ?_
  refine WL.move .nil rfl rfl rfl rfl ?_
  refine WL.eqNil .nil rfl rfl rfl (by decide) Try.underlying28 rfl rfl ?_
  refine WL.nil ?_
  refine Ex.thn_norm ?_
  refine W.cond rfl (fun hc => ?_) (fun hc => ?_)
  · have hnil := SrcX.isNone h4 hc
    subst hnil
    with_reducible refine W.seq ?_
    with_reducible refine W.region ?_
    refine WL.assign .nil rfl rfl rfl rfl ?_
    refine WL.nil ?_
    refine Ex.thn_norm ?_
    with_reducible refine W.ret ?_
    repeat (with_reducible refine Ex.thn_ret ?_)
    exact ⟨.inr rfl, _, resl1 rfl, none, 0, hS0, rfl, OW.nil⟩
  · with_reducible refine W.skip ?_
    refine Ex.thn_norm ?_
    with_reducible refine W.seq ?_
    with_reducible refine W.region ?_
    refine GL.lit (cs := []) (xs := ([] : List GRec)) hS0 .nil rfl rfl rfl Try.underlying28 info35 rfl rfl rfl (by decide) (by decide) rfl rfl rfl rfl rfl RA.nil rfl (fun H5 hS6 hO7 hk8 => ?_)
    refine WL.move .nil rfl rfl rfl rfl ?_
    refine GL.append (α := GRec) hS6 .nil rfl rfl rfl Try.underlying28 Try.underlying28 rfl info35 rfl rfl rfl (by decide) rfl rfl hO7 (by omega) (by omega) (h4.up (n' := n0) hS0 hk8) (by simpa using hlen) (fun a9 c10 n11 H12 hS13 hn14 hO15 hk16 hid17 => ?_)
    refine WL.assign .nil rfl rfl rfl rfl ?_
    refine WL.nil ?_
    refine Ex.thn_norm ?_
    with_reducible refine W.ret ?_
    rw [List.nil_append] at hO15
    exact ⟨.inr rfl, _, resl1 rfl, a9, c10, hS13, rfl, hO15⟩
end Go.Proofs.YtlpcdcpcfeaecaaAb
