import Derived.Test.YtlpcdcpcfeaecaaG04
set_option linter.all false
set_option maxRecDepth 20000
namespace Go.Proofs.YtlpcdcpcfeaecaaAb
open Go Go.Proofs
theorem f_impl_Cluster_tick_k {Δ : Prims} (g : Env Try.prog Δ) {lo n0 : Nat} {H0 F0 : Heap} (hS : St lo n0 H0 F0) {p0 : Nat} {x1 : GCluster} {ez0 : Nat} {a2 : Option Addr} {cap3 : Nat} {S6 : Nat → Prop} {a7 : Option Addr} {cap8 : Nat} {a11 : Option Addr} {cap12 : Nat} {x18 : Int} (ho15 : H0 p0 = some (.row ez0 [.slice a2 x1.Peers.length cap3, .slice a7 x1.Net.length cap8, .slice a11 x1.Chosen.length cap12, .bool x1.Conflict])) (fo16 : F0 p0 = none) (lo17 : lo ≤ p0) (h4 : OD lo n0 H0 F0 S6 [] (.slice a2 x1.Peers.length cap3) x1.Peers) (h9 : OW lo n0 H0 F0 (.slice a7 x1.Net.length cap8) x1.Net) (h13 : OW lo n0 H0 F0 (.slice a11 x1.Chosen.length cap12) x1.Chosen) (ap19 : ¬ S6 p0) (ap20 : idOf (.slice a7 x1.Net.length cap8) ≠ some p0) (ap21 : ∀ b, idOf (.slice a7 x1.Net.length cap8) = some b → ¬ S6 b) (ap22 : idOf (.slice a11 x1.Chosen.length cap12) ≠ some p0) (ap23 : ∀ b, idOf (.slice a11 x1.Chosen.length cap12) = some b → ¬ S6 b) (ap24 : ∀ b, idOf (.slice a11 x1.Chosen.length cap12) = some b → idOf (.slice a7 x1.Net.length cap8) ≠ some b) {res : (GCluster)} (hr : f_impl_Cluster_tick x1 x18 = some res) :
    C Try.prog Δ lo 58 [.pointer (some ⟨p0, 0, none⟩), .int .i64 x18] n0 H0 (fun v n H => ∃ (F : Heap) (rS2 : Nat → Prop) (ra4 : Option Addr) (rcap5 : Nat) (ra7 : Option Addr) (rcap8 : Nat), Ext n0 F0 n F ∧ St lo n H F ∧ H p0 = some (.row ez0 [.slice a2 x1.Peers.length cap3, .slice ra4 res.Net.length rcap5, .slice ra7 res.Chosen.length rcap8, .bool res.Conflict]) ∧ v = .tuple #[] ∧ OD lo n H F rS2 [] (.slice a2 x1.Peers.length cap3) res.Peers ∧ x1.Peers.length = res.Peers.length ∧ OW lo n H F (.slice ra4 res.Net.length rcap5) res.Net ∧ OW lo n H F (.slice ra7 res.Chosen.length rcap8) res.Chosen ∧ ¬ rS2 p0 ∧ idOf (.slice ra4 res.Net.length rcap5) ≠ some p0 ∧ idOf (.slice ra7 res.Chosen.length rcap8) ≠ some p0 ∧ (∀ b, idOf (.slice ra4 res.Net.length rcap5) = some b → ¬ rS2 b) ∧ (∀ b, idOf (.slice ra7 res.Chosen.length rcap8) = some b → ¬ rS2 b) ∧ (∀ b, idOf (.slice ra7 res.Chosen.length rcap8) = some b → idOf (.slice ra4 res.Net.length rcap5) ≠ some b)) := by
 refine C.body Try.func58 rfl rfl ?_
 unfold f_impl_Cluster_tick at hr
 have hS0 : St lo n0 H0 F0 := hS
 have hE0 := Ext.refl n0 F0
 have hlo0 := hS0.lo
 have lt0 := hS0.lt ho15
 with_reducible refine W.seq ?_
 with_reducible refine W.region ?_
 refine GL.box hS0 .nil (vc := [.pointer (some ⟨p0, 0, none⟩)]) rfl rfl rfl rfl rfl (by repeat' (first | exact List.forall_mem_nil _ | refine List.forall_mem_cons.2 ⟨?_, ?_⟩ | rfl)) (fun H25 hS26 ho27 hk28 => ?_)
 have fo29 := hS0.fnone (Nat.le_refl _)
 have ho31 := (hk28 _ (by have := lt0; omega)).trans ho15
 have h32 := OD.keep (n' := (n0 + 1)) h4 (by omega) (fun i hi => hk28 i (OD.id_lt h4 hi).2)
 have h33 := OW.keep (n' := (n0 + 1)) h9 (by omega) (fun i hi => hk28 i (OW.id_lt h9 hi).2)
 have h34 := OW.keep (n' := (n0 + 1)) h13 (by omega) (fun i hi => hk28 i (OW.id_lt h13 hi).2)
 have hlon01 := hS26.lo
 have lt30 : n0 < (n0 + 1) := by omega
 refine GL.box hS26 .nil (vc := [.int .i64 x18]) rfl rfl rfl rfl rfl (by repeat' (first | exact List.forall_mem_nil _ | refine List.forall_mem_cons.2 ⟨?_, ?_⟩ | rfl)) (fun H35 hS36 ho37 hk38 => ?_)
 have fo39 := hS26.fnone (Nat.le_refl _)
 have ho41 := (hk38 _ (by have := lt0; omega)).trans ho31
 have ho42 := (hk38 _ (by have := lt30; omega)).trans ho27
 have h43 := OD.keep (n' := ((n0 + 1) + 1)) h32 (by omega) (fun i hi => hk38 i (OD.id_lt h32 hi).2)
 have h44 := OW.keep (n' := ((n0 + 1) + 1)) h33 (by omega) (fun i hi => hk38 i (OW.id_lt h33 hi).2)
 have h45 := OW.keep (n' := ((n0 + 1) + 1)) h34 (by omega) (fun i hi => hk38 i (OW.id_lt h34 hi).2)
 have hlon011 := hS36.lo
 have lt40 : (n0 + 1) < ((n0 + 1) + 1) := by omega
 refine WL.nil ?_
 refine Ex.thn_norm ?_
 with_reducible refine W.seq ?_
 refine W.regionD [0, 1, 2, 3, 4, 5, 6, 7] [false, false, false, false, false, false, false, true] rfl rfl (by kernel_rfl) (by kernel_rfl) (by (conv => lhs; simp only [List.map_cons, List.map_nil, List.getD_cons_zero, List.getD_cons_succ]) <;> rfl) ?_
 refine WL.load1 .r rfl rfl rfl Try.underlying60 rfl rfl ho42 rfl ?_
 refine WL.nilCheck .r rfl rfl rfl rfl ?_
 refine WL.fieldAddr .r rfl rfl rfl Try.underlying30 rfl info26 rfl rfl ?_
 refine WL.load1 .r rfl rfl rfl Try.underlying26 rfl rfl ho41 rfl ?_
 refine WL.load1 .r rfl rfl rfl Try.underlying3 rfl rfl ho37 rfl ?_
 obtain ⟨x46, hx46, hr⟩ := bnd_some hr
 refine GL.indexD .r rfl rfl rfl Try.underlying26 info42 rfl rfl h43 rfl hx46 (fun b47 el48 hp49 => ?_)
 refine GL.alloc hS36 .r (zc := [.pointer none]) rfl rfl rfl info88 rfl rfl rfl (fun H50 hS51 ho52 hk53 => ?_)
 have fo54 := hS36.fnone (Nat.le_refl _)
 have ho56 := (hk53 _ (by have := lt0; omega)).trans ho41
 have ho57 := (hk53 _ (by have := lt30; omega)).trans ho42
 have ho58 := (hk53 _ (by have := lt40; omega)).trans ho37
 have h59 := OD.keep (n' := (((n0 + 1) + 1) + 1)) h43 (by omega) (fun i hi => hk53 i (OD.id_lt h43 hi).2)
 have h60 := OW.keep (n' := (((n0 + 1) + 1) + 1)) h44 (by omega) (fun i hi => hk53 i (OW.id_lt h44 hi).2)
 have h61 := OW.keep (n' := (((n0 + 1) + 1) + 1)) h45 (by omega) (fun i hi => hk53 i (OW.id_lt h45 hi).2)
 have hlon0111 := hS51.lo
 have lt55 : ((n0 + 1) + 1) < (((n0 + 1) + 1) + 1) := by omega
 refine GL.store hS51 .w (vc := [.pointer (some ⟨b47, el48, none⟩)]) (c' := [.pointer (some ⟨b47, el48, none⟩)]) rfl rfl rfl info88 rfl rfl rfl rfl ho52 fo54 (Nat.le_of_ble_eq_true rfl) (by omega) (one1 rfl) rfl (fun H62 hS63 ho64 hk65 => ?_)
 have ho66 := (hk65 _ (by omega)).trans ho56
 have ho67 := (hk65 _ (by omega)).trans ho57
 have ho68 := (hk65 _ (by omega)).trans ho58
 have h69 := OD.keep h59 (Nat.le_refl _) (fun i hi => hk65 i (fun hj => (Ap.alloc (OD.hb h43)) (hj ▸ hi)))
 have h70 := OW.keep h60 (Nat.le_refl _) (fun i hi => hk65 i (fun hj => (Ap.alloc (OW.hb h44)) (hj ▸ hi)))
 have h71 := OW.keep h61 (Nat.le_refl _) (fun i hi => hk65 i (fun hj => (Ap.alloc (OW.hb h45)) (hj ▸ hi)))
 refine WL.nil ?_
 refine Ex.thn_norm ?_
 with_reducible refine W.block ?_
 with_reducible refine W.seq ?_
 with_reducible refine W.region ?_
 refine WL.load1 .nil rfl rfl rfl Try.underlying88 rfl rfl ho64 rfl ?_
 refine WL.nilCheck .nil rfl rfl rfl rfl ?_
 refine WL.fieldAddr .nil rfl rfl rfl Try.underlying42 rfl info3 rfl rfl ?_
 obtain ⟨c72, ecs73, hrow74, hwin75, hb76⟩ := OD.get h69 hp49 hx46
 obtain ⟨a77, cap78, a79, cap80, a81, cap82, a83, cap84, rfl⟩ := GPeer.ofB hb76
 refine WL.load1 .nil rfl rfl rfl Try.underlying3 rfl rfl hrow74 ((win_get (m := 4) hwin75 (show (4 : Nat) < 9 by decide)).trans rfl) ?_
 refine WL.bin .nil rfl rfl rfl rfl rfl rfl ?_
 refine WL.assign .nil rfl rfl rfl rfl ?_
 refine WL.nil ?_
 refine Ex.thn_norm ?_
 refine W.condD rfl (fun hc85 => ?_) (fun hc85 => ?_)
 {
 replace hr := ite_pos hr hc85
 with_reducible refine W.region ?_
 refine WL.load1 .nil rfl rfl rfl Try.underlying60 rfl rfl ho67 rfl ?_
 refine WL.load1 .nil rfl rfl rfl Try.underlying3 rfl rfl ho68 rfl ?_
 refine WL.mkFunc .nil rfl rfl rfl rfl rfl ?_
 refine GL.callIn (args := [.pointer (some ⟨p0, 0, none⟩), .int .i64 x18, .func (.func 91) [].toArray [.pointer (some ⟨n0, 0, none⟩), .pointer (some ⟨(n0 + 1), 0, none⟩)].toArray]) .nil lo rfl rfl rfl rfl rfl rfl Try.func90 rfl rfl (Nat.le_refl _) hS63.lo ?_
 refine C.body Try.func90 rfl rfl ?_
 with_reducible refine W.seq ?_
 with_reducible refine W.region ?_
 refine WL.move .nil rfl rfl rfl rfl ?_
 refine WL.nilCheck .nil rfl rfl rfl rfl ?_
 refine WL.fieldAddr .nil rfl rfl rfl Try.underlying30 rfl info26 rfl rfl ?_
 refine WL.load1 .nil rfl rfl rfl Try.underlying26 rfl rfl ho66 rfl ?_
 refine WL.len .nil rfl rfl rfl Try.underlying26 rfl ?_
 refine WL.move .nil rfl rfl rfl rfl ?_
 refine WL.nil ?_
 refine Ex.thn_norm ?_
 with_reducible refine W.block ?_
 refine W.loopF (fun k0 fr n H => ∃ (x463 : Int) (xs468 : (List GPeer)) (S471 : Nat → Prop) (a472 : Option Addr) (cap473 : Nat) (xs474 : (List GMsg)) (a477 : Option Addr) (cap478 : Nat) (xs479 : (List GRec)) (x482 : Bool) (F : Heap), fr = [(1, .int .i64 x18), (2, .func (.func 91) [].toArray [.pointer (some ⟨n0, 0, none⟩), .pointer (some ⟨(n0 + 1), 0, none⟩)].toArray), (11, .int .i64 (x1.Peers.length : Int)), (12, .int .i64 x463)] ∧ St lo n H F ∧ Ext n0 F0 n F ∧ H (n0 + 1) = some (.row 1 [.int .i64 x18]) ∧ F (n0 + 1) = none ∧ H n0 = some (.row 1 [.pointer (some ⟨p0, 0, none⟩)]) ∧ F n0 = none ∧ H p0 = some (.row ez0 [.slice a2 x1.Peers.length cap3, .slice a472 xs474.length cap473, .slice a477 xs479.length cap478, .bool x482]) ∧ F p0 = none ∧ OD lo n H F S471 [] (.slice a2 x1.Peers.length cap3) xs468 ∧ x1.Peers.length = xs468.length ∧ OW lo n H F (.slice a472 xs474.length cap473) xs474 ∧ OW lo n H F (.slice a477 xs479.length cap478) xs479 ∧ ¬ S471 (n0 + 1) ∧ ¬ S471 n0 ∧ ¬ S471 p0 ∧ idOf (.slice a472 xs474.length cap473) ≠ some (n0 + 1) ∧ idOf (.slice a472 xs474.length cap473) ≠ some n0 ∧ idOf (.slice a472 xs474.length cap473) ≠ some p0 ∧ (∀ b, idOf (.slice a472 xs474.length cap473) = some b → ¬ S471 b) ∧ idOf (.slice a477 xs479.length cap478) ≠ some (n0 + 1) ∧ idOf (.slice a477 xs479.length cap478) ≠ some n0 ∧ idOf (.slice a477 xs479.length cap478) ≠ some p0 ∧ (∀ b, idOf (.slice a477 xs479.length cap478) = some b → ¬ S471 b) ∧ (∀ b, idOf (.slice a477 xs479.length cap478) = some b → idOf (.slice a472 xs474.length cap473) ≠ some b) ∧ f_impl_Cluster_tick_L0 x1 x18 k0 x463 xs468 xs474 xs479 x482 = some res) BIG (fr0 := [(1, .int .i64 x18), (2, .func (.func 91) [].toArray [.pointer (some ⟨n0, 0, none⟩), .pointer (some ⟨(n0 + 1), 0, none⟩)].toArray), (11, .int .i64 (x1.Peers.length : Int)), (12, .int .i64 0)]) (Fr.le_cons rfl (Fr.le_cons rfl (Fr.le_cons rfl (Fr.le_cons rfl Fr.le_nil)))) ?_ ?_ ?_
 {
 exact ⟨0, x1.Peers, S6, a7, cap8, x1.Net, a11, cap12, x1.Chosen, x1.Conflict, F0, rfl, hS63, (hE0.up (by omega)), ho68, fo39, ho67, fo29, ho66, fo16, h69, rfl, h70, h71, (Ap.alloc (OD.hb h32)), (Ap.alloc (OD.hb h4)), ap19, (Ap.alloc (OW.hb h33)), (Ap.alloc (OW.hb h9)), ap20, ap21, (Ap.alloc (OW.hb h34)), (Ap.alloc (OW.hb h13)), ap22, ap23, ap24, hr⟩
 }
 {
 intro fr n H hI
 obtain ⟨x463, xs468, S471, a472, cap473, xs474, a477, cap478, xs479, x482, F460, hfr, hS461, hE462, ho464, fo465, ho466, fo467, ho483, fo484, h469, hl470, h475, h480, ap485, ap486, ap487, ap488, ap489, ap490, ap491, ap492, ap493, ap494, ap495, ap496, hr⟩ := hI
 rw [f_impl_Cluster_tick_L0] at hr
 cases hr
 }
 {
 intro k0 _ n458 H459 hI
 obtain ⟨x463, xs468, S471, a472, cap473, xs474, a477, cap478, xs479, x482, F460, rfl, hS461, hE462, ho464, fo465, ho466, fo467, ho483, fo484, h469, hl470, h475, h480, ap485, ap486, ap487, ap488, ap489, ap490, ap491, ap492, ap493, ap494, ap495, ap496, hr⟩ := hI
 have lt497 := hS461.lt ho464
 have lt498 := hS461.lt ho466
 have lt499 := hS461.lt ho483
 have hlen458 := hE462.le
 have hlon458 := hS461.lo
 rw [f_impl_Cluster_tick_L0] at hr
 with_reducible refine W.seq ?_
 with_reducible refine W.region ?_
 refine WL.bin .nil rfl rfl rfl rfl rfl rfl ?_
 refine WL.nil ?_
 refine Ex.thn_norm ?_
 with_reducible refine W.seq ?_
 refine W.condD rfl (fun hc501 => ?_) (fun hc501 => ?_)
 {
 replace hr := ite_pos hr hc501
 with_reducible refine W.skip ?_
 refine Ex.thn_norm ?_
 with_reducible refine W.seq ?_
 refine W.cut (fun fr n H => ∃ (xs564 : (List GPeer)) (S567 : Nat → Prop) (a568 : Option Addr) (cap569 : Nat) (xs570 : (List GMsg)) (a573 : Option Addr) (cap574 : Nat) (xs575 : (List GRec)) (x578 : Bool) (F : Heap), fr = [(1, .int .i64 x18), (2, .func (.func 91) [].toArray [.pointer (some ⟨n0, 0, none⟩), .pointer (some ⟨(n0 + 1), 0, none⟩)].toArray), (11, .int .i64 (x1.Peers.length : Int)), (12, .int .i64 x463)] ∧ St lo n H F ∧ Ext n0 F0 n F ∧ H (n0 + 1) = some (.row 1 [.int .i64 x18]) ∧ F (n0 + 1) = none ∧ H n0 = some (.row 1 [.pointer (some ⟨p0, 0, none⟩)]) ∧ F n0 = none ∧ H p0 = some (.row ez0 [.slice a2 x1.Peers.length cap3, .slice a568 xs570.length cap569, .slice a573 xs575.length cap574, .bool x578]) ∧ F p0 = none ∧ OD lo n H F S567 [] (.slice a2 x1.Peers.length cap3) xs564 ∧ x1.Peers.length = xs564.length ∧ OW lo n H F (.slice a568 xs570.length cap569) xs570 ∧ OW lo n H F (.slice a573 xs575.length cap574) xs575 ∧ ¬ S567 (n0 + 1) ∧ ¬ S567 n0 ∧ ¬ S567 p0 ∧ idOf (.slice a568 xs570.length cap569) ≠ some (n0 + 1) ∧ idOf (.slice a568 xs570.length cap569) ≠ some n0 ∧ idOf (.slice a568 xs570.length cap569) ≠ some p0 ∧ (∀ b, idOf (.slice a568 xs570.length cap569) = some b → ¬ S567 b) ∧ idOf (.slice a573 xs575.length cap574) ≠ some (n0 + 1) ∧ idOf (.slice a573 xs575.length cap574) ≠ some n0 ∧ idOf (.slice a573 xs575.length cap574) ≠ some p0 ∧ (∀ b, idOf (.slice a573 xs575.length cap574) = some b → ¬ S567 b) ∧ (∀ b, idOf (.slice a573 xs575.length cap574) = some b → idOf (.slice a568 xs570.length cap569) ≠ some b) ∧ f_impl_Cluster_tick_J1 x463 (f_impl_Cluster_tick_L0 x1 x18 k0) xs564 xs570 xs575 x578 = some res) ?_ ?_
 {
 with_reducible refine W.block ?_
 with_reducible refine W.seq ?_
 with_reducible refine W.region ?_
 refine WL.move .nil rfl rfl rfl rfl ?_
 refine WL.assign .nil rfl rfl rfl rfl ?_
 refine WL.nil ?_
 refine Ex.thn_norm ?_
 with_reducible refine W.seq ?_
 with_reducible refine W.region ?_
 refine WL.move .nil rfl rfl rfl rfl ?_
 refine WL.move .nil rfl rfl rfl rfl ?_
 refine WL.bin .nil rfl rfl rfl rfl rfl rfl ?_
 refine WL.nil ?_
 refine Ex.thn_norm ?_
 refine W.condN rfl (fun hc597 => ?_) (fun hc597 => ?_)
 {
 replace hr := ite_neg hr hc597
 with_reducible refine W.region ?_
 refine WL.move .nil rfl rfl rfl rfl ?_
 refine WL.move .nil rfl rfl rfl rfl ?_
 refine GL.callIn (args := [.int .i64 x463, .pointer (some ⟨n0, 0, none⟩), .pointer (some ⟨(n0 + 1), 0, none⟩)]) .nil lo rfl rfl rfl rfl rfl rfl Try.func91 rfl rfl (Nat.le_refl _) hS461.lo ?_
 refine C.body Try.func91 rfl rfl ?_
 with_reducible refine W.region ?_
 refine WL.load1 .nil rfl rfl rfl Try.underlying60 rfl rfl ho466 rfl ?_
 refine WL.load1 .nil rfl rfl rfl Try.underlying3 rfl rfl ho464 rfl ?_
 refine WL.move .nil rfl rfl rfl rfl ?_
 obtain ⟨x598, hx598, hr⟩ := bnd_some hr
 refine GL.callIO g .nil (fun i => (F460 i).isSome = true ∨ i = p0 ∨ S471 i ∨ idOf (.slice a472 xs474.length cap473) = some i ∨ idOf (.slice a477 xs479.length cap478) = some i) rfl rfl rfl rfl rfl rfl Try.func89 rfl rfl (Nat.le_refl _) hS461.lo (f_impl_Cluster_records_k (x1 := ({ Peers := xs468, Net := xs474, Chosen := xs479, Conflict := x482 } : GCluster)) g (St.vis hS461 (fun i hi => .inl hi)) (by rw [← hl470]; exact vis_get ho483 (.inr (.inl rfl))) fo484 lo17 (OD.head hl470 (OD.vis h469 (fun i hi => (.inr (.inr (.inl hi)))))) (OW.vis h475 (fun i hi => (.inr (.inr (.inr (.inl hi)))))) (OW.vis h480 (fun i hi => (.inr (.inr (.inr (.inr (hi))))))) ap487 ap490 ap491 ap494 ap495 ap496 hx598) (fun v n599 H600 H601 hn602 hp603 hle604 hnew605 hk606 hd607 => ?_)
 obtain ⟨F618, S609, a611, cap612, a614, cap615, hX619, hS617, ho620, rfl, h608, hl610, h613, h616, ap621, ap622, ap623, ap624, ap625, ap626⟩ := hp603
 have hS627 : St lo n599 H600 _ := ⟨hS617.lo, fun i hi => (hnew605 i (by omega)).trans (hS617.hb i hi), hS617.fh.trans hle604⟩
 have ho628 := (hk606 _ (by have := lt497; omega) (fun hs => by
      rcases hs with h | h | h | h | h
      · rw [fo465] at h; cases h
      · omega
      · exact ap485 h
      · exact ap488 h
      · exact ap492 h)).trans ho464
 have ho629 := (hk606 _ (by have := lt498; omega) (fun hs => by
      rcases hs with h | h | h | h | h
      · rw [fo467] at h; cases h
      · omega
      · exact ap486 h
      · exact ap489 h
      · exact ap493 h)).trans ho466
 have fo630 := (hX619.eq _ (by have := lt497; omega)).trans fo465
 have fo631 := (hX619.eq _ (by have := lt498; omega)).trans fo467
 have fo632 := (hX619.eq _ (by have := lt499; omega)).trans fo484
 have hE633 := (hE462.up (n' := n458) (by omega)).trans hX619
 have ho634 := hle604 _ _ ho620
 have h635 := OD.le h608 hle604
 have hl636 : x1.Peers.length = x598.Peers.length := hl470.trans hl610
 rw [← hl470] at h635
 have h638 := OW.le h613 hle604
 have h640 := OW.le h616 hle604
 rw [← hl470] at ho634
 have ap641 : ¬ S609 (n0 + 1) := fun hj => (OD.after h608 hd607 hj).elim (fun h => by have := lt497; omega) (fun hs => by
      rcases hs with h | h | h | h | h
      · rw [fo465] at h; cases h
      · omega
      · exact ap485 h
      · exact ap488 h
      · exact ap492 h)
 have ap642 : ¬ S609 n0 := fun hj => (OD.after h608 hd607 hj).elim (fun h => by have := lt498; omega) (fun hs => by
      rcases hs with h | h | h | h | h
      · rw [fo467] at h; cases h
      · omega
      · exact ap486 h
      · exact ap489 h
      · exact ap493 h)
 have ap643 : idOf (.slice a611 x598.Net.length cap612) ≠ some (n0 + 1) := fun hj => (OW.after h613 hd607 hj).elim (fun h => by have := lt497; omega) (fun hs => by
      rcases hs with h | h | h | h | h
      · rw [fo465] at h; cases h
      · omega
      · exact ap485 h
      · exact ap488 h
      · exact ap492 h)
 have ap644 : idOf (.slice a611 x598.Net.length cap612) ≠ some n0 := fun hj => (OW.after h613 hd607 hj).elim (fun h => by have := lt498; omega) (fun hs => by
      rcases hs with h | h | h | h | h
      · rw [fo467] at h; cases h
      · omega
      · exact ap486 h
      · exact ap489 h
      · exact ap493 h)
 have ap645 : idOf (.slice a614 x598.Chosen.length cap615) ≠ some (n0 + 1) := fun hj => (OW.after h616 hd607 hj).elim (fun h => by have := lt497; omega) (fun hs => by
      rcases hs with h | h | h | h | h
      · rw [fo465] at h; cases h
      · omega
      · exact ap485 h
      · exact ap488 h
      · exact ap492 h)
 have ap646 : idOf (.slice a614 x598.Chosen.length cap615) ≠ some n0 := fun hj => (OW.after h616 hd607 hj).elim (fun h => by have := lt498; omega) (fun hs => by
      rcases hs with h | h | h | h | h
      · rw [fo467] at h; cases h
      · omega
      · exact ap486 h
      · exact ap489 h
      · exact ap493 h)
 have hlon599 := hS627.lo
 have lt647 := hS627.lt ho628
 have lt648 := hS627.lt ho629
 have lt649 := hS627.lt ho634
 refine WL.nil ?_
 refine ⟨.inl rfl, _, .nil, ?_⟩
 refine WL.nil ?_
 with_reducible refine Ex.blk_norm ?_
 refine Ex.thn_norm ?_
 exact ⟨[(1, .int .i64 x18), (2, .func (.func 91) [].toArray [.pointer (some ⟨n0, 0, none⟩), .pointer (some ⟨(n0 + 1), 0, none⟩)].toArray), (11, .int .i64 (x1.Peers.length : Int)), (12, .int .i64 x463)], (Fr.le_cons rfl (Fr.le_cons rfl (Fr.le_cons rfl (Fr.le_cons rfl Fr.le_nil)))), x598.Peers, S609, a611, cap612, x598.Net, a614, cap615, x598.Chosen, x598.Conflict, F618, rfl, hS627, hE633, ho628, fo630, ho629, fo631, ho634, fo632, h635, hl636, h638, h640, ap641, ap642, ap621, ap643, ap644, ap622, ap624, ap645, ap646, ap623, ap625, ap626, hr⟩
 }
 {
 replace hr := ite_pos hr hc597
 with_reducible refine W.skip ?_
 with_reducible refine Ex.blk_norm ?_
 refine Ex.thn_norm ?_
 exact ⟨[(1, .int .i64 x18), (2, .func (.func 91) [].toArray [.pointer (some ⟨n0, 0, none⟩), .pointer (some ⟨(n0 + 1), 0, none⟩)].toArray), (11, .int .i64 (x1.Peers.length : Int)), (12, .int .i64 x463)], (Fr.le_cons rfl (Fr.le_cons rfl (Fr.le_cons rfl (Fr.le_cons rfl Fr.le_nil)))), xs468, S471, a472, cap473, xs474, a477, cap478, xs479, x482, F460, rfl, hS461, hE462, ho464, fo465, ho466, fo467, ho483, fo484, h469, hl470, h475, h480, ap485, ap486, ap487, ap488, ap489, ap490, ap491, ap492, ap493, ap494, ap495, ap496, hr⟩
 }
 }
 {
 intro _ n555 H556 hI
 obtain ⟨xs564, S567, a568, cap569, xs570, a573, cap574, xs575, x578, F557, rfl, hS558, hE559, ho560, fo561, ho562, fo563, ho579, fo580, h565, hl566, h571, h576, ap581, ap582, ap583, ap584, ap585, ap586, ap587, ap588, ap589, ap590, ap591, ap592, hr⟩ := hI
 have lt593 := hS558.lt ho560
 have lt594 := hS558.lt ho562
 have lt595 := hS558.lt ho579
 have hlen555 := hE559.le
 have hlon555 := hS558.lo
 unfold f_impl_Cluster_tick_J1 at hr
 with_reducible refine W.region ?_
 obtain ⟨hc596, hr⟩ := chk_some hr
 refine WL.addI .nil rfl rfl rfl rfl rfl hc596.1 hc596.2 ?_
 refine WL.move .nil rfl rfl rfl rfl ?_
 refine WL.nil ?_
 refine Ex.thn_norm ?_
 exact ⟨[(1, .int .i64 x18), (2, .func (.func 91) [].toArray [.pointer (some ⟨n0, 0, none⟩), .pointer (some ⟨(n0 + 1), 0, none⟩)].toArray), (11, .int .i64 (x1.Peers.length : Int)), (12, .int .i64 (x463 + 1))], (Fr.le_cons rfl (Fr.le_cons rfl (Fr.le_cons rfl (Fr.le_cons rfl Fr.le_nil)))), (x463 + 1), xs564, S567, a568, cap569, xs570, a573, cap574, xs575, x578, F557, rfl, hS558, hE559, ho560, fo561, ho562, fo563, ho579, fo580, h565, hl566, h571, h576, ap581, ap582, ap583, ap584, ap585, ap586, ap587, ap588, ap589, ap590, ap591, ap592, hr⟩
 }
 }
 {
 replace hr := ite_neg hr hc501
 with_reducible refine W.exit ?_
 with_reducible refine Ex.thn_ex ?_
 with_reducible refine Ex.thn_ex ?_
 with_reducible refine Ex.blk_here ?_
 refine ⟨.inl rfl, _, .nil, ?_⟩
 refine WL.nil ?_
 with_reducible refine Ex.blk_norm ?_
 obtain rfl := Option.some.inj hr
 exact ⟨.inl rfl, _, .nil, ⟨F460, S471, a472, cap473, a477, cap478, (hE462.up (by omega)), hS461, ho483, rfl, h469, hl470, h475, h480, ap487, ap490, ap494, ap491, ap495, ap496⟩⟩
 }
 }
 }
 {
 replace hr := ite_neg hr hc85
 with_reducible refine W.seq ?_
 with_reducible refine W.region ?_
 refine WL.load1 .nil rfl rfl rfl Try.underlying88 rfl rfl ho64 rfl ?_
 refine WL.nilCheck .nil rfl rfl rfl rfl ?_
 refine WL.fieldAddr .nil rfl rfl rfl Try.underlying42 rfl info3 rfl rfl ?_
 refine WL.load1 .nil rfl rfl rfl Try.underlying3 rfl rfl hrow74 ((win_get (m := 1) hwin75 (show (1 : Nat) < 9 by decide)).trans rfl) ?_
 refine WL.bin .nil rfl rfl rfl rfl rfl rfl ?_
 refine WL.assign .nil rfl rfl rfl rfl ?_
 refine WL.nil ?_
 refine Ex.thn_norm ?_
 refine W.condD rfl (fun hc650 => ?_) (fun hc650 => ?_)
 {
 replace hr := ite_pos hr hc650
 with_reducible refine W.seq ?_
 with_reducible refine W.region ?_
 refine WL.load1 .nil rfl rfl rfl Try.underlying88 rfl rfl ho64 rfl ?_
 refine GL.callIn (args := [.pointer (some ⟨b47, el48, none⟩)]) .nil lo rfl rfl rfl rfl rfl rfl Try.func92 rfl rfl (Nat.le_refl _) hS63.lo ?_
 refine C.body Try.func92 rfl rfl ?_
 with_reducible refine W.region ?_
 refine WL.move .nil rfl rfl rfl rfl ?_
 refine WL.move .nil rfl rfl rfl rfl ?_
 refine WL.move .nil rfl rfl rfl rfl ?_
 refine WL.move .nil rfl rfl rfl rfl ?_
 refine WL.nilCheck .nil rfl rfl rfl rfl ?_
 refine WL.fieldAddr .nil rfl rfl rfl Try.underlying42 rfl info3 rfl rfl ?_
 refine GL.store hS63 .nil (vc := [.int .i64 0]) rfl rfl rfl info3 rfl rfl rfl rfl hrow74 (OD.fnone h69 (OD.bS h69 hp49)) (win_fit2 hwin75 (Nat.le_of_ble_eq_true rfl) rfl (Nat.le_of_ble_eq_true rfl)) (by have := (OD.id_lt h69 (OD.bS h69 hp49)).1; omega) (one1 rfl) rfl (fun H651 hS652 ho653 hk654 => ?_)
 have ho655 := (hk654 p0 (fun hj => ap19 (by rw [hj]; exact (OD.bS h69 hp49)))).trans ho66
 have ho656 := (hk654 n0 (fun hj => (Ap.alloc (OD.hb h4)) (by rw [hj]; exact (OD.bS h69 hp49)))).trans ho67
 have ho657 := (hk654 (n0 + 1) (fun hj => (Ap.alloc (OD.hb h32)) (by rw [hj]; exact (OD.bS h69 hp49)))).trans ho68
 have ho658 := (hk654 ((n0 + 1) + 1) (fun hj => (Ap.alloc (OD.hb h43)) (by rw [hj]; exact (OD.bS h69 hp49)))).trans ho64
 have h659 := OW.keep h70 (Nat.le_refl _) (fun i hi => hk654 i (fun hj => ap21 i hi (by rw [hj]; exact (OD.bS h69 hp49))))
 have h660 := OW.keep h71 (Nat.le_refl _) (fun i hi => hk654 i (fun hj => ap23 i hi (by rw [hj]; exact (OD.bS h69 hp49))))
 have h661 := GPeer.put_Role h69 hp49 hx46 hrow74 hwin75 (w := 0) ho653 hk654
 have hl662 : x1.Peers.length = (setI x1.Peers x18 ({ Up := x46.Up, Term := x46.Term, Vote := x46.Vote, Commit := x46.Commit, Role := 0, Log := x46.Log, Votes := x46.Votes, Next := x46.Next, Match := x46.Match } : GPeer)).length := (setI_length _ _ _).symm
 have hx663 : idx (setI x1.Peers x18 ({ Up := x46.Up, Term := x46.Term, Vote := x46.Vote, Commit := x46.Commit, Role := 0, Log := x46.Log, Votes := x46.Votes, Next := x46.Next, Match := x46.Match } : GPeer)) x18 = some ({ Up := x46.Up, Term := x46.Term, Vote := x46.Vote, Commit := x46.Commit, Role := 0, Log := x46.Log, Votes := x46.Votes, Next := x46.Next, Match := x46.Match } : GPeer) := idx_setI_same hx46
 refine WL.nilCheck .nil rfl rfl rfl rfl ?_
 refine WL.fieldAddr .nil rfl rfl rfl Try.underlying42 rfl info40 rfl rfl ?_
 obtain ⟨c664, ecs665, hrow666, hwin667, hb668⟩ := OD.get h661 hp49 hx663
 obtain ⟨a669, cap670, a671, cap672, a673, cap674, a675, cap676, rfl⟩ := GPeer.ofB hb668
 refine GL.store hS652 .nil (vc := [.slice none 0 0]) rfl rfl rfl info40 rfl rfl rfl rfl hrow666 (OD.fnone h661 (OD.bS h661 hp49)) (win_fit2 hwin667 (Nat.le_of_ble_eq_true rfl) rfl (Nat.le_of_ble_eq_true rfl)) (by have := (OD.id_lt h661 (OD.bS h661 hp49)).1; omega) (one1 rfl) rfl (fun H677 hS678 ho679 hk680 => ?_)
 have ho681 := (hk680 p0 (fun hj => ap19 (by rw [hj]; exact (OD.bS h661 hp49)))).trans ho655
 have ho682 := (hk680 n0 (fun hj => (Ap.alloc (OD.hb h4)) (by rw [hj]; exact (OD.bS h661 hp49)))).trans ho656
 have ho683 := (hk680 (n0 + 1) (fun hj => (Ap.alloc (OD.hb h32)) (by rw [hj]; exact (OD.bS h661 hp49)))).trans ho657
 have ho684 := (hk680 ((n0 + 1) + 1) (fun hj => (Ap.alloc (OD.hb h43)) (by rw [hj]; exact (OD.bS h661 hp49)))).trans ho658
 have h685 := OW.keep h659 (Nat.le_refl _) (fun i hi => hk680 i (fun hj => ap21 i hi (by rw [hj]; exact (OD.bS h661 hp49))))
 have h686 := OW.keep h660 (Nat.le_refl _) (fun i hi => hk680 i (fun hj => ap23 i hi (by rw [hj]; exact (OD.bS h661 hp49))))
 have h687 := GPeer.nil_Votes h661 hp49 hx663 hrow666 hwin667 z00 z00 ho679 hk680
 rw [setI_setI] at h687
 have hl688 : x1.Peers.length = (setI x1.Peers x18 ({ Up := x46.Up, Term := x46.Term, Vote := x46.Vote, Commit := x46.Commit, Role := 0, Log := x46.Log, Votes := [], Next := x46.Next, Match := x46.Match } : GPeer)).length := hl662.trans (by rw [setI_length, setI_length])
 have hx689 : idx (setI x1.Peers x18 ({ Up := x46.Up, Term := x46.Term, Vote := x46.Vote, Commit := x46.Commit, Role := 0, Log := x46.Log, Votes := [], Next := x46.Next, Match := x46.Match } : GPeer)) x18 = some ({ Up := x46.Up, Term := x46.Term, Vote := x46.Vote, Commit := x46.Commit, Role := 0, Log := x46.Log, Votes := [], Next := x46.Next, Match := x46.Match } : GPeer) := idx_setI_same hx46
 refine WL.nilCheck .nil rfl rfl rfl rfl ?_
 refine WL.fieldAddr .nil rfl rfl rfl Try.underlying42 rfl info31 rfl rfl ?_
 obtain ⟨c690, ecs691, hrow692, hwin693, hb694⟩ := OD.get h687 hp49 hx689
 obtain ⟨a695, cap696, a697, cap698, a699, cap700, a701, cap702, rfl⟩ := GPeer.ofB hb694
 refine GL.store hS678 .nil (vc := [.slice none 0 0]) rfl rfl rfl info31 rfl rfl rfl rfl hrow692 (OD.fnone h687 (OD.bS h687 hp49)) (win_fit2 hwin693 (Nat.le_of_ble_eq_true rfl) rfl (Nat.le_of_ble_eq_true rfl)) (by have := (OD.id_lt h687 (OD.bS h687 hp49)).1; omega) (one1 rfl) rfl (fun H703 hS704 ho705 hk706 => ?_)
 have ho707 := (hk706 p0 (fun hj => ap19 (by rw [hj]; exact (OD.bS h687 hp49)))).trans ho681
 have ho708 := (hk706 n0 (fun hj => (Ap.alloc (OD.hb h4)) (by rw [hj]; exact (OD.bS h687 hp49)))).trans ho682
 have ho709 := (hk706 (n0 + 1) (fun hj => (Ap.alloc (OD.hb h32)) (by rw [hj]; exact (OD.bS h687 hp49)))).trans ho683
 have ho710 := (hk706 ((n0 + 1) + 1) (fun hj => (Ap.alloc (OD.hb h43)) (by rw [hj]; exact (OD.bS h687 hp49)))).trans ho684
 have h711 := OW.keep h685 (Nat.le_refl _) (fun i hi => hk706 i (fun hj => ap21 i hi (by rw [hj]; exact (OD.bS h687 hp49))))
 have h712 := OW.keep h686 (Nat.le_refl _) (fun i hi => hk706 i (fun hj => ap23 i hi (by rw [hj]; exact (OD.bS h687 hp49))))
 have h713 := GPeer.nil_Next h687 hp49 hx689 hrow692 hwin693 z00 z00 ho705 hk706
 rw [setI_setI] at h713
 have hl714 : x1.Peers.length = (setI x1.Peers x18 ({ Up := x46.Up, Term := x46.Term, Vote := x46.Vote, Commit := x46.Commit, Role := 0, Log := x46.Log, Votes := [], Next := [], Match := x46.Match } : GPeer)).length := hl688.trans (by rw [setI_length, setI_length])
 have hx715 : idx (setI x1.Peers x18 ({ Up := x46.Up, Term := x46.Term, Vote := x46.Vote, Commit := x46.Commit, Role := 0, Log := x46.Log, Votes := [], Next := [], Match := x46.Match } : GPeer)) x18 = some ({ Up := x46.Up, Term := x46.Term, Vote := x46.Vote, Commit := x46.Commit, Role := 0, Log := x46.Log, Votes := [], Next := [], Match := x46.Match } : GPeer) := idx_setI_same hx46
 refine WL.nilCheck .nil rfl rfl rfl rfl ?_
 refine WL.fieldAddr .nil rfl rfl rfl Try.underlying42 rfl info31 rfl rfl ?_
 obtain ⟨c716, ecs717, hrow718, hwin719, hb720⟩ := OD.get h713 hp49 hx715
 obtain ⟨a721, cap722, a723, cap724, a725, cap726, a727, cap728, rfl⟩ := GPeer.ofB hb720
 refine GL.store hS704 .nil (vc := [.slice none 0 0]) rfl rfl rfl info31 rfl rfl rfl rfl hrow718 (OD.fnone h713 (OD.bS h713 hp49)) (win_fit2 hwin719 (Nat.le_of_ble_eq_true rfl) rfl (Nat.le_of_ble_eq_true rfl)) (by have := (OD.id_lt h713 (OD.bS h713 hp49)).1; omega) (one1 rfl) rfl (fun H729 hS730 ho731 hk732 => ?_)
 have ho733 := (hk732 p0 (fun hj => ap19 (by rw [hj]; exact (OD.bS h713 hp49)))).trans ho707
 have ho734 := (hk732 n0 (fun hj => (Ap.alloc (OD.hb h4)) (by rw [hj]; exact (OD.bS h713 hp49)))).trans ho708
 have ho735 := (hk732 (n0 + 1) (fun hj => (Ap.alloc (OD.hb h32)) (by rw [hj]; exact (OD.bS h713 hp49)))).trans ho709
 have ho736 := (hk732 ((n0 + 1) + 1) (fun hj => (Ap.alloc (OD.hb h43)) (by rw [hj]; exact (OD.bS h713 hp49)))).trans ho710
 have h737 := OW.keep h711 (Nat.le_refl _) (fun i hi => hk732 i (fun hj => ap21 i hi (by rw [hj]; exact (OD.bS h713 hp49))))
 have h738 := OW.keep h712 (Nat.le_refl _) (fun i hi => hk732 i (fun hj => ap23 i hi (by rw [hj]; exact (OD.bS h713 hp49))))
 have h739 := GPeer.nil_Match h713 hp49 hx715 hrow718 hwin719 z00 z00 ho731 hk732
 rw [setI_setI] at h739
 have hl740 : x1.Peers.length = (setI x1.Peers x18 ({ Up := x46.Up, Term := x46.Term, Vote := x46.Vote, Commit := x46.Commit, Role := 0, Log := x46.Log, Votes := [], Next := [], Match := [] } : GPeer)).length := hl714.trans (by rw [setI_length, setI_length])
 have hx741 : idx (setI x1.Peers x18 ({ Up := x46.Up, Term := x46.Term, Vote := x46.Vote, Commit := x46.Commit, Role := 0, Log := x46.Log, Votes := [], Next := [], Match := [] } : GPeer)) x18 = some ({ Up := x46.Up, Term := x46.Term, Vote := x46.Vote, Commit := x46.Commit, Role := 0, Log := x46.Log, Votes := [], Next := [], Match := [] } : GPeer) := idx_setI_same hx46
 refine WL.nil ?_
 refine ⟨.inl rfl, _, .nil, ?_⟩
 refine WL.nil ?_
 refine Ex.thn_norm ?_
 with_reducible refine W.seq ?_
 with_reducible refine W.region ?_
 refine WL.load1 .nil rfl rfl rfl Try.underlying88 rfl rfl ho736 rfl ?_
 refine WL.nilCheck .nil rfl rfl rfl rfl ?_
 refine WL.fieldAddr .nil rfl rfl rfl Try.underlying42 rfl info3 rfl rfl ?_
 obtain ⟨c742, ecs743, hrow744, hwin745, hb746⟩ := OD.get h739 hp49 hx741
 obtain ⟨a747, cap748, a749, cap750, a751, cap752, a753, cap754, rfl⟩ := GPeer.ofB hb746
 refine WL.load1 .nil rfl rfl rfl Try.underlying3 rfl rfl hrow744 ((win_get (m := 1) hwin745 (show (1 : Nat) < 9 by decide)).trans rfl) ?_
 obtain ⟨hc755, hr⟩ := chk_some hr
 refine WL.addI .nil rfl rfl rfl rfl rfl hc755.1 hc755.2 ?_
 refine WL.nilCheck .nil rfl rfl rfl rfl ?_
 refine WL.fieldAddr .nil rfl rfl rfl Try.underlying42 rfl info3 rfl rfl ?_
 refine GL.store hS730 .nil (vc := [.int .i64 (x46.Term + 1)]) rfl rfl rfl info3 rfl rfl rfl rfl hrow744 (OD.fnone h739 (OD.bS h739 hp49)) (win_fit2 hwin745 (Nat.le_of_ble_eq_true rfl) rfl (Nat.le_of_ble_eq_true rfl)) (by have := (OD.id_lt h739 (OD.bS h739 hp49)).1; omega) (one1 rfl) rfl (fun H756 hS757 ho758 hk759 => ?_)
 have ho760 := (hk759 p0 (fun hj => ap19 (by rw [hj]; exact (OD.bS h739 hp49)))).trans ho733
 have ho761 := (hk759 n0 (fun hj => (Ap.alloc (OD.hb h4)) (by rw [hj]; exact (OD.bS h739 hp49)))).trans ho734
 have ho762 := (hk759 (n0 + 1) (fun hj => (Ap.alloc (OD.hb h32)) (by rw [hj]; exact (OD.bS h739 hp49)))).trans ho735
 have ho763 := (hk759 ((n0 + 1) + 1) (fun hj => (Ap.alloc (OD.hb h43)) (by rw [hj]; exact (OD.bS h739 hp49)))).trans ho736
 have h764 := OW.keep h737 (Nat.le_refl _) (fun i hi => hk759 i (fun hj => ap21 i hi (by rw [hj]; exact (OD.bS h739 hp49))))
 have h765 := OW.keep h738 (Nat.le_refl _) (fun i hi => hk759 i (fun hj => ap23 i hi (by rw [hj]; exact (OD.bS h739 hp49))))
 have h766 := GPeer.put_Term h739 hp49 hx741 hrow744 hwin745 (w := (x46.Term + 1)) ho758 hk759
 rw [setI_setI] at h766
 have hl767 : x1.Peers.length = (setI x1.Peers x18 ({ Up := x46.Up, Term := (x46.Term + 1), Vote := x46.Vote, Commit := x46.Commit, Role := 0, Log := x46.Log, Votes := [], Next := [], Match := [] } : GPeer)).length := hl740.trans (by rw [setI_length, setI_length])
 have hx768 : idx (setI x1.Peers x18 ({ Up := x46.Up, Term := (x46.Term + 1), Vote := x46.Vote, Commit := x46.Commit, Role := 0, Log := x46.Log, Votes := [], Next := [], Match := [] } : GPeer)) x18 = some ({ Up := x46.Up, Term := (x46.Term + 1), Vote := x46.Vote, Commit := x46.Commit, Role := 0, Log := x46.Log, Votes := [], Next := [], Match := [] } : GPeer) := idx_setI_same hx46
 refine WL.nil ?_
 refine Ex.thn_norm ?_
 with_reducible refine W.seq ?_
 refine W.regionI (fun H => H ((n0 + 1) + 1) = some (.row 1 [.pointer (some ⟨b47, el48, none⟩)]) ∧ H (((n0 + 1) + 1) + 1) = some (.row (Rp.sz Bool) (List.replicate (x1.Peers.length : Int).toNat [.bool false]).flatten)) [0, 1, 2, 3, 4, 5, 6, 7, 8, 9, 10, 11, 12, 13, 14, 15, 16, 17, 18, 19] [(false, false, false), (false, true, false), (false, true, false), (false, false, false), (false, false, false), (false, false, false), (false, false, false), (false, false, false), (false, false, false), (false, true, false), (false, true, false), (false, false, false), (false, false, false), (true, false, false), (false, false, false), (false, false, false), (true, false, true), (false, false, false), (false, false, false), (true, false, true)] false rfl (by kernel_rfl) (by kernel_rfl) (by (conv => lhs; simp only [List.map_cons, List.map_nil, List.getD_cons_zero, List.getD_cons_succ]) <;> rfl) ?_
 refine WLI.op (fun h => by cases h) ?_
 refine WL.load1 .r rfl rfl rfl Try.underlying88 rfl rfl ho763 rfl ?_
 with_reducible refine WL.nil ⟨rfl, ?_⟩
 refine WLI.late (v := .pointer (some ⟨b47, el48, none⟩)) (fun h => by cases h) rfl rfl (fun H2 hI2 => Step.load1' rfl Try.underlying88 rfl rfl (hI2.elim (fun e => by rw [e]; exact ho763) (fun h => h.1)) rfl) ?_
 refine WLI.late (v := .pointer (some ⟨b47, el48, none⟩)) (fun h => by cases h) rfl rfl (fun H2 hI2 => Step.load1' rfl Try.underlying88 rfl rfl (hI2.elim (fun e => by rw [e]; exact ho763) (fun h => h.1)) rfl) ?_
 refine WLI.op (fun h => by cases h) ?_
 refine WL.load1 .r rfl rfl rfl Try.underlying3 rfl rfl ho762 rfl ?_
 with_reducible refine WL.nil ⟨rfl, ?_⟩
 refine WLI.op (fun h => by cases h) ?_
 obtain ⟨hc770, hr⟩ := chk_some hr
 refine WL.addI .r rfl rfl rfl rfl rfl hc770.1 hc770.2 ?_
 with_reducible refine WL.nil ⟨rfl, ?_⟩
 refine WLI.op (fun h => by cases h) ?_
 refine WL.load1 .r rfl rfl rfl Try.underlying60 rfl rfl ho761 rfl ?_
 with_reducible refine WL.nil ⟨rfl, ?_⟩
 refine WLI.op (fun h => by cases h) ?_
 refine WL.nilCheck .r rfl rfl rfl rfl ?_
 with_reducible refine WL.nil ⟨rfl, ?_⟩
 refine WLI.op (fun h => by cases h) ?_
 refine WL.fieldAddr .r rfl rfl rfl Try.underlying30 rfl info26 rfl rfl ?_
 with_reducible refine WL.nil ⟨rfl, ?_⟩
 refine WLI.op (fun h => by cases h) ?_
 refine WL.load1 .r rfl rfl rfl Try.underlying26 rfl rfl ho760 rfl ?_
 with_reducible refine WL.nil ⟨rfl, ?_⟩
 refine WLI.late (v := .int .i64 (x1.Peers.length : Int)) (fun h => by cases h) rfl rfl (fun H2 hI2 => Step.len' rfl Try.underlying26 rfl) ?_
 obtain ⟨hc771, hr⟩ := chk_some hr
 refine GL.makeLate (α := Bool) (u := false) (zc := [.bool false]) hS757 (fun h => by cases h) rfl rfl rfl Try.underlying40 info4 rfl rfl rfl (by decide) rfl (by decide) rfl rfl rfl rfl hc771.1 hc771.2 (fun H h => h.2) (fun H772 hS773 hO774 hk775 hr776 => ?_)
 have ho777 := (hk775 _ (by have := lt0; omega)).trans ho760
 have ho778 := (hk775 _ (by have := lt30; omega)).trans ho761
 have ho779 := (hk775 _ (by have := lt40; omega)).trans ho762
 have ho780 := (hk775 _ (by have := lt55; omega)).trans ho763
 have h781 := OD.keep (n' := ((((n0 + 1) + 1) + 1) + 1)) h766 (by omega) (fun i hi => hk775 i (OD.id_lt h766 hi).2)
 have h782 := OW.keep (n' := ((((n0 + 1) + 1) + 1) + 1)) h764 (by omega) (fun i hi => hk775 i (OW.id_lt h764 hi).2)
 have h783 := OW.keep (n' := ((((n0 + 1) + 1) + 1) + 1)) h765 (by omega) (fun i hi => hk775 i (OW.id_lt h765 hi).2)
 have h784 := OW.lower (lo' := n0) hO774 (by omega)
 have hlon01111 := hS773.lo
 have rw795 : RW n0 ((((n0 + 1) + 1) + 1) + 1) H772 F0 (((n0 + 1) + 1) + 1) (.row (Rp.sz Bool) (List.replicate (x1.Peers.length : Int).toNat [.bool false]).flatten) := ⟨by omega, by omega, OW.fnone h784 rfl, hr776⟩
 have ap796 : ¬ p0 = (((n0 + 1) + 1) + 1) := fun h => (Ap.fresh0 (OW.lb hO774) (by have := lt0; omega)) (congrArg some h.symm)
 have ap797 : ¬ n0 = (((n0 + 1) + 1) + 1) := fun h => (Ap.fresh0 (OW.lb hO774) (by have := lt30; omega)) (congrArg some h.symm)
 have ap798 : ¬ (n0 + 1) = (((n0 + 1) + 1) + 1) := fun h => (Ap.fresh0 (OW.lb hO774) (by have := lt40; omega)) (congrArg some h.symm)
 have ap799 : ¬ ((n0 + 1) + 1) = (((n0 + 1) + 1) + 1) := fun h => (Ap.fresh0 (OW.lb hO774) (by have := lt55; omega)) (congrArg some h.symm)
 have ap800 : ∀ b, b = (((n0 + 1) + 1) + 1) → ¬ S6 b := fun b h => (Ap.fresh (OW.lb hO774) (OD.hb h766)) b (congrArg some h.symm)
 have ap801 : ∀ b, b = (((n0 + 1) + 1) + 1) → idOf (.slice a7 x1.Net.length cap8) ≠ some b := fun b h => (Ap.fresh (OW.lb hO774) (OW.hb h764)) b (congrArg some h.symm)
 have ap802 : ∀ b, b = (((n0 + 1) + 1) + 1) → idOf (.slice a11 x1.Chosen.length cap12) ≠ some b := fun b h => (Ap.fresh (OW.lb hO774) (OW.hb h765)) b (congrArg some h.symm)
 refine WLI.op (fun h => by cases h) ?_
 refine WL.nilCheck .r rfl rfl rfl rfl ?_
 with_reducible refine WL.nil ⟨rfl, ?_⟩
 refine WLI.op (fun h => by cases h) ?_
 refine WL.fieldAddr .r rfl rfl rfl Try.underlying42 rfl info3 rfl rfl ?_
 with_reducible refine WL.nil ⟨rfl, ?_⟩
 refine WLI.op (fun h => by cases h) ?_
 obtain ⟨c803, ecs804, hrow805, hwin806, hb807⟩ := OD.get h781 hp49 hx768
 obtain ⟨a808, cap809, a810, cap811, a812, cap813, a814, cap815, rfl⟩ := GPeer.ofB hb807
 refine GL.store hS773 .w (vc := [.int .i64 (x18 + 1)]) rfl rfl rfl info3 rfl rfl rfl rfl hrow805 (OD.fnone h781 (OD.bS h781 hp49)) (win_fit2 hwin806 (Nat.le_of_ble_eq_true rfl) rfl (Nat.le_of_ble_eq_true rfl)) (by have := (OD.id_lt h781 (OD.bS h781 hp49)).1; omega) (one1 rfl) rfl (fun H816 hS817 ho818 hk819 => ?_)
 have ho820 := (hk819 p0 (fun hj => ap19 (by rw [hj]; exact (OD.bS h781 hp49)))).trans ho777
 have ho821 := (hk819 n0 (fun hj => (Ap.alloc (OD.hb h4)) (by rw [hj]; exact (OD.bS h781 hp49)))).trans ho778
 have ho822 := (hk819 (n0 + 1) (fun hj => (Ap.alloc (OD.hb h32)) (by rw [hj]; exact (OD.bS h781 hp49)))).trans ho779
 have ho823 := (hk819 ((n0 + 1) + 1) (fun hj => (Ap.alloc (OD.hb h43)) (by rw [hj]; exact (OD.bS h781 hp49)))).trans ho780
 have h824 := OW.keep h782 (Nat.le_refl _) (fun i hi => hk819 i (fun hj => ap21 i hi (by rw [hj]; exact (OD.bS h781 hp49))))
 have h825 := OW.keep h783 (Nat.le_refl _) (fun i hi => hk819 i (fun hj => ap23 i hi (by rw [hj]; exact (OD.bS h781 hp49))))
 have h826 := OW.keep h784 (Nat.le_refl _) (fun i hi => hk819 i (fun hj => (Ap.fresh (OW.lb hO774) (OD.hb h766)) i hi (by rw [hj]; exact (OD.bS h781 hp49))))
 have h827 := RW.keep rw795 (Nat.le_refl _) (fun i hi => hk819 i (fun hj => ap800 i hi (by rw [hj]; exact (OD.bS h781 hp49))))
 have h828 := GPeer.put_Vote h781 hp49 hx768 hrow805 hwin806 (w := (x18 + 1)) ho818 hk819
 rw [setI_setI] at h828
 have hl829 : x1.Peers.length = (setI x1.Peers x18 ({ Up := x46.Up, Term := (x46.Term + 1), Vote := (x18 + 1), Commit := x46.Commit, Role := 0, Log := x46.Log, Votes := [], Next := [], Match := [] } : GPeer)).length := hl767.trans (by rw [setI_length, setI_length])
 have hx830 : idx (setI x1.Peers x18 ({ Up := x46.Up, Term := (x46.Term + 1), Vote := (x18 + 1), Commit := x46.Commit, Role := 0, Log := x46.Log, Votes := [], Next := [], Match := [] } : GPeer)) x18 = some ({ Up := x46.Up, Term := (x46.Term + 1), Vote := (x18 + 1), Commit := x46.Commit, Role := 0, Log := x46.Log, Votes := [], Next := [], Match := [] } : GPeer) := idx_setI_same hx46
 with_reducible refine WL.nil ⟨rfl, ?_⟩
 refine WLI.op (fun h => by cases h) ?_
 refine WL.nilCheck .r rfl rfl rfl rfl ?_
 with_reducible refine WL.nil ⟨rfl, ?_⟩
 refine WLI.op (fun h => by cases h) ?_
 refine WL.fieldAddr .r rfl rfl rfl Try.underlying42 rfl info3 rfl rfl ?_
 with_reducible refine WL.nil ⟨rfl, ?_⟩
 refine WLI.op (fun _ => ⟨ho823, h827.2.2.2⟩) ?_
 obtain ⟨c831, ecs832, hrow833, hwin834, hb835⟩ := OD.get h828 hp49 hx830
 obtain ⟨a836, cap837, a838, cap839, a840, cap841, a842, cap843, rfl⟩ := GPeer.ofB hb835
 refine GL.store hS817 .w (vc := [.int .i64 1]) rfl rfl rfl info3 rfl rfl rfl rfl hrow833 (OD.fnone h828 (OD.bS h828 hp49)) (win_fit2 hwin834 (Nat.le_of_ble_eq_true rfl) rfl (Nat.le_of_ble_eq_true rfl)) (by have := (OD.id_lt h828 (OD.bS h828 hp49)).1; omega) (one1 rfl) rfl (fun H844 hS845 ho846 hk847 => ?_)
 have ho848 := (hk847 p0 (fun hj => ap19 (by rw [hj]; exact (OD.bS h828 hp49)))).trans ho820
 have ho849 := (hk847 n0 (fun hj => (Ap.alloc (OD.hb h4)) (by rw [hj]; exact (OD.bS h828 hp49)))).trans ho821
 have ho850 := (hk847 (n0 + 1) (fun hj => (Ap.alloc (OD.hb h32)) (by rw [hj]; exact (OD.bS h828 hp49)))).trans ho822
 have ho851 := (hk847 ((n0 + 1) + 1) (fun hj => (Ap.alloc (OD.hb h43)) (by rw [hj]; exact (OD.bS h828 hp49)))).trans ho823
 have h852 := OW.keep h824 (Nat.le_refl _) (fun i hi => hk847 i (fun hj => ap21 i hi (by rw [hj]; exact (OD.bS h828 hp49))))
 have h853 := OW.keep h825 (Nat.le_refl _) (fun i hi => hk847 i (fun hj => ap23 i hi (by rw [hj]; exact (OD.bS h828 hp49))))
 have h854 := OW.keep h826 (Nat.le_refl _) (fun i hi => hk847 i (fun hj => (Ap.fresh (OW.lb hO774) (OD.hb h766)) i hi (by rw [hj]; exact (OD.bS h828 hp49))))
 have h855 := RW.keep h827 (Nat.le_refl _) (fun i hi => hk847 i (fun hj => ap800 i hi (by rw [hj]; exact (OD.bS h828 hp49))))
 have h856 := GPeer.put_Role h828 hp49 hx830 hrow833 hwin834 (w := 1) ho846 hk847
 rw [setI_setI] at h856
 have hl857 : x1.Peers.length = (setI x1.Peers x18 ({ Up := x46.Up, Term := (x46.Term + 1), Vote := (x18 + 1), Commit := x46.Commit, Role := 1, Log := x46.Log, Votes := [], Next := [], Match := [] } : GPeer)).length := hl829.trans (by rw [setI_length, setI_length])
 have hx858 : idx (setI x1.Peers x18 ({ Up := x46.Up, Term := (x46.Term + 1), Vote := (x18 + 1), Commit := x46.Commit, Role := 1, Log := x46.Log, Votes := [], Next := [], Match := [] } : GPeer)) x18 = some ({ Up := x46.Up, Term := (x46.Term + 1), Vote := (x18 + 1), Commit := x46.Commit, Role := 1, Log := x46.Log, Votes := [], Next := [], Match := [] } : GPeer) := idx_setI_same hx46
 with_reducible refine WL.nil ⟨rfl, ?_⟩
 refine WLI.op (fun h => by cases h) ?_
 refine WL.nilCheck .r rfl rfl rfl rfl ?_
 with_reducible refine WL.nil ⟨rfl, ?_⟩
 refine WLI.op (fun h => by cases h) ?_
 refine WL.fieldAddr .r rfl rfl rfl Try.underlying42 rfl info40 rfl rfl ?_
 with_reducible refine WL.nil ⟨rfl, ?_⟩
 refine WLI.op (fun _ => ⟨ho851, h855.2.2.2⟩) ?_
 obtain ⟨c859, ecs860, hrow861, hwin862, hb863⟩ := OD.get h856 hp49 hx858
 obtain ⟨a864, cap865, a866, cap867, a868, cap869, a870, cap871, rfl⟩ := GPeer.ofB hb863
 refine GL.store hS845 .w (vc := [.slice (some ⟨(((n0 + 1) + 1) + 1), 0, none⟩) (List.replicate (x1.Peers.length : Int).toNat (false : Bool)).length ((x1.Peers.length : Int).toNat)]) rfl rfl rfl info40 rfl rfl rfl rfl hrow861 (OD.fnone h856 (OD.bS h856 hp49)) (win_fit2 hwin862 (Nat.le_of_ble_eq_true rfl) rfl (Nat.le_of_ble_eq_true rfl)) (by have := (OD.id_lt h856 (OD.bS h856 hp49)).1; omega) (one1 rfl) rfl (fun H872 hS873 ho874 hk875 => ?_)
 have ho876 := (hk875 p0 (fun hj => ap19 (by rw [hj]; exact (OD.bS h856 hp49)))).trans ho848
 have ho877 := (hk875 n0 (fun hj => (Ap.alloc (OD.hb h4)) (by rw [hj]; exact (OD.bS h856 hp49)))).trans ho849
 have ho878 := (hk875 (n0 + 1) (fun hj => (Ap.alloc (OD.hb h32)) (by rw [hj]; exact (OD.bS h856 hp49)))).trans ho850
 have ho879 := (hk875 ((n0 + 1) + 1) (fun hj => (Ap.alloc (OD.hb h43)) (by rw [hj]; exact (OD.bS h856 hp49)))).trans ho851
 have h880 := OW.keep h852 (Nat.le_refl _) (fun i hi => hk875 i (fun hj => ap21 i hi (by rw [hj]; exact (OD.bS h856 hp49))))
 have h881 := OW.keep h853 (Nat.le_refl _) (fun i hi => hk875 i (fun hj => ap23 i hi (by rw [hj]; exact (OD.bS h856 hp49))))
 have h882 := OW.keep h854 (Nat.le_refl _) (fun i hi => hk875 i (fun hj => (Ap.fresh (OW.lb hO774) (OD.hb h766)) i hi (by rw [hj]; exact (OD.bS h856 hp49))))
 have h883 := RW.keep h855 (Nat.le_refl _) (fun i hi => hk875 i (fun hj => ap800 i hi (by rw [hj]; exact (OD.bS h856 hp49))))
 obtain ⟨S885, hs886, h884⟩ := GPeer.set_Votes h856 hp49 hx858 hrow861 hwin862 (OW.lower h854 (by omega)) (fun i hi => (Ap.fresh (OW.lb hO774) (OD.hb h766)) i hi) z00 z00 ho874 hk875
 rw [setI_setI] at h884
 have hl887 : x1.Peers.length = (setI x1.Peers x18 ({ Up := x46.Up, Term := (x46.Term + 1), Vote := (x18 + 1), Commit := x46.Commit, Role := 1, Log := x46.Log, Votes := (List.replicate (x1.Peers.length : Int).toNat (false : Bool)), Next := [], Match := [] } : GPeer)).length := hl857.trans (by rw [setI_length, setI_length])
 have hx888 : idx (setI x1.Peers x18 ({ Up := x46.Up, Term := (x46.Term + 1), Vote := (x18 + 1), Commit := x46.Commit, Role := 1, Log := x46.Log, Votes := (List.replicate (x1.Peers.length : Int).toNat (false : Bool)), Next := [], Match := [] } : GPeer)) x18 = some ({ Up := x46.Up, Term := (x46.Term + 1), Vote := (x18 + 1), Commit := x46.Commit, Role := 1, Log := x46.Log, Votes := (List.replicate (x1.Peers.length : Int).toNat (false : Bool)), Next := [], Match := [] } : GPeer) := idx_setI_same hx46
 with_reducible refine WL.nil ⟨rfl, ?_⟩
 refine WLI.nil (fun h => by cases h) ?_
 refine Ex.thn_norm ?_
 with_reducible refine W.seq ?_
 refine W.regionD [0, 1, 2, 3, 4, 5, 6] [false, false, false, false, false, false, true] rfl rfl (by kernel_rfl) (by kernel_rfl) (by (conv => lhs; simp only [List.map_cons, List.map_nil, List.getD_cons_zero, List.getD_cons_succ]) <;> rfl) ?_
 refine WL.load1 .r rfl rfl rfl Try.underlying88 rfl rfl ho879 rfl ?_
 refine WL.nilCheck .r rfl rfl rfl rfl ?_
 refine WL.fieldAddr .r rfl rfl rfl Try.underlying42 rfl info40 rfl rfl ?_
 obtain ⟨c889, ecs890, hrow891, hwin892, hb893⟩ := OD.get h884 hp49 hx888
 obtain ⟨a894, cap895, a896, cap897, a898, cap899, a900, cap901, rfl⟩ := GPeer.ofB hb893
 obtain ⟨S902, hs903, hs904, hs905, h906, h907⟩ := GPeer.open_Votes h884 hp49 hx888 hrow891 hwin892 (List.forall_mem_nil _)
 refine WL.load1 .r rfl rfl rfl Try.underlying40 rfl rfl hrow891 ((win_get (m := 6) hwin892 (show (6 : Nat) < 9 by decide)).trans rfl) ?_
 refine WL.load1 .r rfl rfl rfl Try.underlying3 rfl rfl ho878 rfl ?_
 obtain ⟨x909, hx909, hr⟩ := bnd_some hr
 refine GL.indexO .r rfl rfl rfl Try.underlying40 info4 rfl rfl h906 rfl hx909 (fun b910 kp911 c912 ecs913 hid917 hrow914 hwin915 hR916 hup918 => ?_)
 have hcs : _ = ([.bool x909] : List Value) := hR916
 subst hcs
 refine GL.store hS873 .w (vc := [.bool true]) rfl rfl rfl info4 rfl rfl rfl rfl hrow914 (OW.fnone h906 hid917) (by first | exact win_fit hwin915 (Nat.le_of_ble_eq_true rfl) rfl (Nat.le_of_ble_eq_true rfl) | exact win_fit2 hwin915 (Nat.le_of_ble_eq_true rfl) rfl (Nat.le_of_ble_eq_true rfl) | exact win_fit3 hwin915 (Nat.le_of_ble_eq_true rfl) rfl (Nat.le_of_ble_eq_true rfl)) (OW.id_lt h906 hid917).1 (one1 rfl) rfl (fun H919 hS920 ho921 hk922 => ?_)
 have h923 := hup918 0 [.bool true] (true : Bool) H919 (Nat.le_of_ble_eq_true rfl) rfl ho921
 have ho924 := (hk922 p0 (fun hj => (Ap.sub0 hs904 (Ap.or0 hs886 ap19 (Ap.fresh0 (OW.lb hO774) (by have := lt0; omega)))) (by rw [hj]; exact hid917))).trans ho876
 have ho925 := (hk922 n0 (fun hj => (Ap.sub0 hs904 (Ap.or0 hs886 (Ap.alloc (OD.hb h4)) (Ap.fresh0 (OW.lb hO774) (by have := lt30; omega)))) (by rw [hj]; exact hid917))).trans ho877
 have ho926 := (hk922 (n0 + 1) (fun hj => (Ap.sub0 hs904 (Ap.or0 hs886 (Ap.alloc (OD.hb h32)) (Ap.fresh0 (OW.lb hO774) (by have := lt40; omega)))) (by rw [hj]; exact hid917))).trans ho878
 have ho927 := (hk922 ((n0 + 1) + 1) (fun hj => (Ap.sub0 hs904 (Ap.or0 hs886 (Ap.alloc (OD.hb h43)) (Ap.fresh0 (OW.lb hO774) (by have := lt55; omega)))) (by rw [hj]; exact hid917))).trans ho879
 have h928 := OD.keep h907 (Nat.le_refl _) (fun i hi => hk922 i (fun hj => (Ap.sym hs905) i hi (by rw [hj]; exact hid917)))
 have h929 := OW.keep h880 (Nat.le_refl _) (fun i hi => hk922 i (fun hj => (Ap.sym (Ap.sub hs904 (Ap.or hs886 (Ap.sym ap21) (Ap.fresh (OW.lb hO774) (OW.hb h764))))) i hi (by rw [hj]; exact hid917)))
 have h930 := OW.keep h881 (Nat.le_refl _) (fun i hi => hk922 i (fun hj => (Ap.sym (Ap.sub hs904 (Ap.or hs886 (Ap.sym ap23) (Ap.fresh (OW.lb hO774) (OW.hb h765))))) i hi (by rw [hj]; exact hid917)))
 have hl931 : (List.replicate (x1.Peers.length : Int).toNat (false : Bool)).length = (setI (List.replicate (x1.Peers.length : Int).toNat (false : Bool)) x18 true).length := (setI_length _ _ _).symm
 refine WL.nil ?_
 refine Ex.thn_norm ?_
 with_reducible refine W.seq ?_
 with_reducible refine W.region ?_
 refine WL.load1 .nil rfl rfl rfl Try.underlying88 rfl rfl ho927 rfl ?_
 obtain ⟨c932, ecs933, hrow934, hwin935, hb936⟩ := OD.get h928 hp49 hx888
 obtain ⟨a937, cap938, a939, cap940, a941, cap942, a943, cap944, rfl⟩ := GPeer.ofB hb936
 have hq945 := OD.hole h928 hp49 hx888 hrow934 hwin935
 obtain ⟨rfl, rfl⟩ := hdr_eq (a := a939) (c := cap940) hq945
 obtain ⟨S946, hs947, hs948, hs949, h950, h951⟩ := GPeer.open_Log h928 hp49 hx888 hrow934 hwin935 (List.forall_mem_cons.2 ⟨fun h => absurd (show (6 : Nat) = 5 from h.2) (by decide), List.forall_mem_nil _⟩)
 have ap953 : idOf (.slice a937 x46.Log.length cap938) ≠ some n0 := Ap.sub0 hs948 (Ap.sub0 hs903 (Ap.or0 hs886 (Ap.alloc (OD.hb h4)) (Ap.fresh0 (OW.lb hO774) (by have := lt30; omega))))
 have ap954 : idOf (.slice a937 x46.Log.length cap938) ≠ some (n0 + 1) := Ap.sub0 hs948 (Ap.sub0 hs903 (Ap.or0 hs886 (Ap.alloc (OD.hb h32)) (Ap.fresh0 (OW.lb hO774) (by have := lt40; omega))))
 have ap955 : idOf (.slice a937 x46.Log.length cap938) ≠ some ((n0 + 1) + 1) := Ap.sub0 hs948 (Ap.sub0 hs903 (Ap.or0 hs886 (Ap.alloc (OD.hb h43)) (Ap.fresh0 (OW.lb hO774) (by have := lt55; omega))))
 have ap956 : ¬ S946 n0 := Ap.sub0 hs947 (Ap.sub0 hs903 (Ap.or0 hs886 (Ap.alloc (OD.hb h4)) (Ap.fresh0 (OW.lb hO774) (by have := lt30; omega))))
 have ap957 : ¬ S946 (n0 + 1) := Ap.sub0 hs947 (Ap.sub0 hs903 (Ap.or0 hs886 (Ap.alloc (OD.hb h32)) (Ap.fresh0 (OW.lb hO774) (by have := lt40; omega))))
 have ap958 : ¬ S946 ((n0 + 1) + 1) := Ap.sub0 hs947 (Ap.sub0 hs903 (Ap.or0 hs886 (Ap.alloc (OD.hb h43)) (Ap.fresh0 (OW.lb hO774) (by have := lt55; omega))))
 obtain ⟨x959, hx959, hr⟩ := bnd_some hr
 refine GL.callP g.good .nil rfl rfl rfl rfl rfl rfl Try.func86 rfl rfl hS920.lo (f_impl_Peer_last_elem0_k  g hS920 hrow934 hwin935 h950 hx959) (fun v n960 H961 hn962 hk963 hp964 => ?_)
 obtain ⟨hS965, rfl⟩ := hp964
 have ho966 := (hk963 _ (by have := lt0; omega)).trans ho924
 have ho967 := (hk963 _ (by have := lt30; omega)).trans ho925
 have ho968 := (hk963 _ (by have := lt40; omega)).trans ho926
 have ho969 := (hk963 _ (by have := lt55; omega)).trans ho927
 have h970 := OD.keep (n' := n960) h951 (by omega) (fun i hi => hk963 i (OD.id_lt h951 hi).2)
 have h971 := OW.keep (n' := n960) h929 (by omega) (fun i hi => hk963 i (OW.id_lt h929 hi).2)
 have h972 := OW.keep (n' := n960) h930 (by omega) (fun i hi => hk963 i (OW.id_lt h930 hi).2)
 have h973 := OW.keep (n' := n960) h923 (by omega) (fun i hi => hk963 i (OW.id_lt h923 hi).2)
 have h974 := OW.keep (n' := n960) h950 (by omega) (fun i hi => hk963 i (OW.id_lt h950 hi).2)
 have hS975 : St lo n960 H961 F0 := ⟨by have := hS920.lo; omega, hS965.hb, hS965.fh⟩
 have hlon960 := hS975.lo
 refine WL.move .nil rfl rfl rfl rfl ?_
 refine WL.extract .nil rfl rfl rfl rfl rfl ?_
 refine WL.extract .nil rfl rfl rfl rfl rfl ?_
 refine GL.alloc hS975 .nil (zc := [.int .i64 0]) rfl rfl rfl info3 rfl rfl rfl (fun H976 hS977 ho978 hk979 => ?_)
 have fo980 := hS975.fnone (Nat.le_refl _)
 have ho982 := (hk979 _ (by have := lt0; omega)).trans ho966
 have ho983 := (hk979 _ (by have := lt30; omega)).trans ho967
 have ho984 := (hk979 _ (by have := lt40; omega)).trans ho968
 have ho985 := (hk979 _ (by have := lt55; omega)).trans ho969
 have h986 := OD.keep (n' := (n960 + 1)) h970 (by omega) (fun i hi => hk979 i (OD.id_lt h970 hi).2)
 have h987 := OW.keep (n' := (n960 + 1)) h971 (by omega) (fun i hi => hk979 i (OW.id_lt h971 hi).2)
 have h988 := OW.keep (n' := (n960 + 1)) h972 (by omega) (fun i hi => hk979 i (OW.id_lt h972 hi).2)
 have h989 := OW.keep (n' := (n960 + 1)) h973 (by omega) (fun i hi => hk979 i (OW.id_lt h973 hi).2)
 have h990 := OW.keep (n' := (n960 + 1)) h974 (by omega) (fun i hi => hk979 i (OW.id_lt h974 hi).2)
 have hlon9601 := hS977.lo
 have lt981 : n960 < (n960 + 1) := by omega
 refine GL.alloc hS977 .nil (zc := [.int .i64 0]) rfl rfl rfl info3 rfl rfl rfl (fun H991 hS992 ho993 hk994 => ?_)
 have fo995 := hS977.fnone (Nat.le_refl _)
 have ho997 := (hk994 _ (by have := lt0; omega)).trans ho982
 have ho998 := (hk994 _ (by have := lt30; omega)).trans ho983
 have ho999 := (hk994 _ (by have := lt40; omega)).trans ho984
 have ho1000 := (hk994 _ (by have := lt55; omega)).trans ho985
 have ho1001 := (hk994 _ (by have := lt981; omega)).trans ho978
 have h1002 := OD.keep (n' := ((n960 + 1) + 1)) h986 (by omega) (fun i hi => hk994 i (OD.id_lt h986 hi).2)
 have h1003 := OW.keep (n' := ((n960 + 1) + 1)) h987 (by omega) (fun i hi => hk994 i (OW.id_lt h987 hi).2)
 have h1004 := OW.keep (n' := ((n960 + 1) + 1)) h988 (by omega) (fun i hi => hk994 i (OW.id_lt h988 hi).2)
 have h1005 := OW.keep (n' := ((n960 + 1) + 1)) h989 (by omega) (fun i hi => hk994 i (OW.id_lt h989 hi).2)
 have h1006 := OW.keep (n' := ((n960 + 1) + 1)) h990 (by omega) (fun i hi => hk994 i (OW.id_lt h990 hi).2)
 have hlon96011 := hS992.lo
 have lt996 : (n960 + 1) < ((n960 + 1) + 1) := by omega
 refine GL.store hS992 .nil (vc := [.int .i64 x959.1]) (c' := [.int .i64 x959.1]) rfl rfl rfl info3 rfl rfl rfl rfl ho1001 fo980 (Nat.le_of_ble_eq_true rfl) (by omega) (one1 rfl) rfl (fun H1007 hS1008 ho1009 hk1010 => ?_)
 have ho1011 := (hk1010 _ (by omega)).trans ho997
 have ho1012 := (hk1010 _ (by omega)).trans ho998
 have ho1013 := (hk1010 _ (by omega)).trans ho999
 have ho1014 := (hk1010 _ (by omega)).trans ho1000
 have ho1015 := (hk1010 _ (by omega)).trans ho993
 have h1016 := OD.keep h1002 (Nat.le_refl _) (fun i hi => hk1010 i (fun hj => (Ap.alloc (OD.hb h970)) (hj ▸ hi)))
 have h1017 := OW.keep h1003 (Nat.le_refl _) (fun i hi => hk1010 i (fun hj => (Ap.alloc (OW.hb h971)) (hj ▸ hi)))
 have h1018 := OW.keep h1004 (Nat.le_refl _) (fun i hi => hk1010 i (fun hj => (Ap.alloc (OW.hb h972)) (hj ▸ hi)))
 have h1019 := OW.keep h1005 (Nat.le_refl _) (fun i hi => hk1010 i (fun hj => (Ap.alloc (OW.hb h973)) (hj ▸ hi)))
 have h1020 := OW.keep h1006 (Nat.le_refl _) (fun i hi => hk1010 i (fun hj => (Ap.alloc (OW.hb h974)) (hj ▸ hi)))
 refine GL.store hS1008 .nil (vc := [.int .i64 x959.2]) (c' := [.int .i64 x959.2]) rfl rfl rfl info3 rfl rfl rfl rfl ho1015 fo995 (Nat.le_of_ble_eq_true rfl) (by omega) (one1 rfl) rfl (fun H1021 hS1022 ho1023 hk1024 => ?_)
 have ho1025 := (hk1024 _ (by omega)).trans ho1011
 have ho1026 := (hk1024 _ (by omega)).trans ho1012
 have ho1027 := (hk1024 _ (by omega)).trans ho1013
 have ho1028 := (hk1024 _ (by omega)).trans ho1014
 have ho1029 := (hk1024 _ (by omega)).trans ho1009
 have h1030 := OD.keep h1016 (Nat.le_refl _) (fun i hi => hk1024 i (fun hj => (Ap.alloc (OD.hb h986)) (hj ▸ hi)))
 have h1031 := OW.keep h1017 (Nat.le_refl _) (fun i hi => hk1024 i (fun hj => (Ap.alloc (OW.hb h987)) (hj ▸ hi)))
 have h1032 := OW.keep h1018 (Nat.le_refl _) (fun i hi => hk1024 i (fun hj => (Ap.alloc (OW.hb h988)) (hj ▸ hi)))
 have h1033 := OW.keep h1019 (Nat.le_refl _) (fun i hi => hk1024 i (fun hj => (Ap.alloc (OW.hb h989)) (hj ▸ hi)))
 have h1034 := OW.keep h1020 (Nat.le_refl _) (fun i hi => hk1024 i (fun hj => (Ap.alloc (OW.hb h990)) (hj ▸ hi)))
 refine WL.nil ?_
 refine Ex.thn_norm ?_
 with_reducible refine W.seq ?_
 with_reducible refine W.region ?_
 refine WL.load1 .nil rfl rfl rfl Try.underlying60 rfl rfl ho1026 rfl ?_
 refine WL.load1 .nil rfl rfl rfl Try.underlying3 rfl rfl ho1027 rfl ?_
 refine WL.mkFunc .nil rfl rfl rfl rfl rfl ?_
 refine GL.callIn (args := [.pointer (some ⟨p0, 0, none⟩), .int .i64 x18, .func (.func 93) [].toArray [.pointer (some ⟨n0, 0, none⟩), .pointer (some ⟨(n0 + 1), 0, none⟩), .pointer (some ⟨((n0 + 1) + 1), 0, none⟩), .pointer (some ⟨n960, 0, none⟩), .pointer (some ⟨(n960 + 1), 0, none⟩)].toArray]) .nil lo rfl rfl rfl rfl rfl rfl Try.func90 rfl rfl (Nat.le_refl _) hS1022.lo ?_
 refine C.body Try.func90 rfl rfl ?_
 with_reducible refine W.seq ?_
 with_reducible refine W.region ?_
 refine WL.move .nil rfl rfl rfl rfl ?_
 refine WL.nilCheck .nil rfl rfl rfl rfl ?_
 refine WL.fieldAddr .nil rfl rfl rfl Try.underlying30 rfl info26 rfl rfl ?_
 refine WL.load1 .nil rfl rfl rfl Try.underlying26 rfl rfl ho1025 rfl ?_
 refine WL.len .nil rfl rfl rfl Try.underlying26 rfl ?_
 refine WL.move .nil rfl rfl rfl rfl ?_
 refine WL.nil ?_
 refine Ex.thn_norm ?_
 with_reducible refine W.block ?_
 obtain ⟨S2023, hs2024, h2025⟩ := GPeer.close0_Log h1030 hx888 h1034
 have ap2026 : ¬ S2023 p0 := Ap.or0 hs2024 (Ap.sub0 hs947 (Ap.sub0 hs903 (Ap.or0 hs886 ap19 (Ap.fresh0 (OW.lb hO774) (by have := lt0; omega))))) (Ap.sub0 hs948 (Ap.sub0 hs903 (Ap.or0 hs886 ap19 (Ap.fresh0 (OW.lb hO774) (by have := lt0; omega)))))
 have ap2027 : ∀ b, S2023 b → idOf (.slice a7 x1.Net.length cap8) ≠ some b := Ap.or hs2024 (Ap.sub hs947 (Ap.sub hs903 (Ap.or hs886 (Ap.sym ap21) (Ap.fresh (OW.lb hO774) (OW.hb h764))))) (Ap.sub hs948 (Ap.sub hs903 (Ap.or hs886 (Ap.sym ap21) (Ap.fresh (OW.lb hO774) (OW.hb h764)))))
 have ap2028 : ∀ b, S2023 b → idOf (.slice a11 x1.Chosen.length cap12) ≠ some b := Ap.or hs2024 (Ap.sub hs947 (Ap.sub hs903 (Ap.or hs886 (Ap.sym ap23) (Ap.fresh (OW.lb hO774) (OW.hb h765))))) (Ap.sub hs948 (Ap.sub hs903 (Ap.or hs886 (Ap.sym ap23) (Ap.fresh (OW.lb hO774) (OW.hb h765)))))
 obtain ⟨S2029, hs2030, h2031⟩ := GPeer.close_Votes h2025 hx888 hl931 h1033
 have ap2032 : ¬ S2029 n0 := Ap.or0 hs2030 (Ap.or0 hs2024 ap956 ap953) (Ap.sub0 hs904 (Ap.or0 hs886 (Ap.alloc (OD.hb h4)) (Ap.fresh0 (OW.lb hO774) (by have := lt30; omega))))
 have ap2033 : ¬ S2029 (n0 + 1) := Ap.or0 hs2030 (Ap.or0 hs2024 ap957 ap954) (Ap.sub0 hs904 (Ap.or0 hs886 (Ap.alloc (OD.hb h32)) (Ap.fresh0 (OW.lb hO774) (by have := lt40; omega))))
 have ap2034 : ¬ S2029 ((n0 + 1) + 1) := Ap.or0 hs2030 (Ap.or0 hs2024 ap958 ap955) (Ap.sub0 hs904 (Ap.or0 hs886 (Ap.alloc (OD.hb h43)) (Ap.fresh0 (OW.lb hO774) (by have := lt55; omega))))
 rw [setI_setI] at h2031
 have hl2035 : x1.Peers.length = (setI x1.Peers x18 ({ Up := x46.Up, Term := (x46.Term + 1), Vote := (x18 + 1), Commit := x46.Commit, Role := 1, Log := x46.Log, Votes := (setI (List.replicate (x1.Peers.length : Int).toNat (false : Bool)) x18 true), Next := [], Match := [] } : GPeer)).length := hl887.trans (by rw [setI_length, setI_length])
 have hx2036 : idx (setI x1.Peers x18 ({ Up := x46.Up, Term := (x46.Term + 1), Vote := (x18 + 1), Commit := x46.Commit, Role := 1, Log := x46.Log, Votes := (setI (List.replicate (x1.Peers.length : Int).toNat (false : Bool)) x18 true), Next := [], Match := [] } : GPeer)) x18 = some ({ Up := x46.Up, Term := (x46.Term + 1), Vote := (x18 + 1), Commit := x46.Commit, Role := 1, Log := x46.Log, Votes := (setI (List.replicate (x1.Peers.length : Int).toNat (false : Bool)) x18 true), Next := [], Match := [] } : GPeer) := idx_setI_same hx46
 refine W.loopF (fun k2 fr n H => ∃ (x1666 : Int) (xs1677 : (List GPeer)) (S1680 : Nat → Prop) (a1681 : Option Addr) (cap1682 : Nat) (xs1683 : (List GMsg)) (a1686 : Option Addr) (cap1687 : Nat) (xs1688 : (List GRec)) (x1691 : Bool) (F : Heap), fr = [(1, .int .i64 x18), (2, .func (.func 93) [].toArray [.pointer (some ⟨n0, 0, none⟩), .pointer (some ⟨(n0 + 1), 0, none⟩), .pointer (some ⟨((n0 + 1) + 1), 0, none⟩), .pointer (some ⟨n960, 0, none⟩), .pointer (some ⟨(n960 + 1), 0, none⟩)].toArray), (11, .int .i64 (x1.Peers.length : Int)), (12, .int .i64 x1666)] ∧ St lo n H F ∧ Ext n0 F0 n F ∧ H ((n0 + 1) + 1) = some (.row 1 [.pointer (some ⟨b47, el48, none⟩)]) ∧ F ((n0 + 1) + 1) = none ∧ H (n0 + 1) = some (.row 1 [.int .i64 x18]) ∧ F (n0 + 1) = none ∧ H (n960 + 1) = some (.row 1 [.int .i64 x959.2]) ∧ F (n960 + 1) = none ∧ H n0 = some (.row 1 [.pointer (some ⟨p0, 0, none⟩)]) ∧ F n0 = none ∧ H n960 = some (.row 1 [.int .i64 x959.1]) ∧ F n960 = none ∧ H p0 = some (.row ez0 [.slice a2 x1.Peers.length cap3, .slice a1681 xs1683.length cap1682, .slice a1686 xs1688.length cap1687, .bool x1691]) ∧ F p0 = none ∧ OD lo n H F S1680 [] (.slice a2 x1.Peers.length cap3) xs1677 ∧ x1.Peers.length = xs1677.length ∧ OW lo n H F (.slice a1681 xs1683.length cap1682) xs1683 ∧ OW lo n H F (.slice a1686 xs1688.length cap1687) xs1688 ∧ ¬ S1680 ((n0 + 1) + 1) ∧ ¬ S1680 (n0 + 1) ∧ ¬ S1680 (n960 + 1) ∧ ¬ S1680 n0 ∧ ¬ S1680 n960 ∧ ¬ S1680 p0 ∧ idOf (.slice a1681 xs1683.length cap1682) ≠ some ((n0 + 1) + 1) ∧ idOf (.slice a1681 xs1683.length cap1682) ≠ some (n0 + 1) ∧ idOf (.slice a1681 xs1683.length cap1682) ≠ some (n960 + 1) ∧ idOf (.slice a1681 xs1683.length cap1682) ≠ some n0 ∧ idOf (.slice a1681 xs1683.length cap1682) ≠ some n960 ∧ idOf (.slice a1681 xs1683.length cap1682) ≠ some p0 ∧ (∀ b, idOf (.slice a1681 xs1683.length cap1682) = some b → ¬ S1680 b) ∧ idOf (.slice a1686 xs1688.length cap1687) ≠ some ((n0 + 1) + 1) ∧ idOf (.slice a1686 xs1688.length cap1687) ≠ some (n0 + 1) ∧ idOf (.slice a1686 xs1688.length cap1687) ≠ some (n960 + 1) ∧ idOf (.slice a1686 xs1688.length cap1687) ≠ some n0 ∧ idOf (.slice a1686 xs1688.length cap1687) ≠ some n960 ∧ idOf (.slice a1686 xs1688.length cap1687) ≠ some p0 ∧ (∀ b, idOf (.slice a1686 xs1688.length cap1687) = some b → ¬ S1680 b) ∧ (∀ b, idOf (.slice a1686 xs1688.length cap1687) = some b → idOf (.slice a1681 xs1683.length cap1682) ≠ some b) ∧ f_impl_Cluster_tick_L2 x1 x18 x959 k2 x1666 xs1677 xs1683 xs1688 x1691 = some res) BIG (fr0 := [(1, .int .i64 x18), (2, .func (.func 93) [].toArray [.pointer (some ⟨n0, 0, none⟩), .pointer (some ⟨(n0 + 1), 0, none⟩), .pointer (some ⟨((n0 + 1) + 1), 0, none⟩), .pointer (some ⟨n960, 0, none⟩), .pointer (some ⟨(n960 + 1), 0, none⟩)].toArray), (11, .int .i64 (x1.Peers.length : Int)), (12, .int .i64 0)]) (Fr.le_cons rfl (Fr.le_cons rfl (Fr.le_cons rfl (Fr.le_cons rfl Fr.le_nil)))) ?_ ?_ ?_
 {
 exact ⟨0, (setI x1.Peers x18 ({ Up := x46.Up, Term := (x46.Term + 1), Vote := (x18 + 1), Commit := x46.Commit, Role := 1, Log := x46.Log, Votes := (setI (List.replicate (x1.Peers.length : Int).toNat (false : Bool)) x18 true), Next := [], Match := [] } : GPeer)), S2029, a7, cap8, x1.Net, a11, cap12, x1.Chosen, x1.Conflict, F0, rfl, hS1022, (hE0.up (by omega)), ho1028, fo54, ho1027, fo39, ho1023, fo995, ho1026, fo29, ho1029, fo980, ho1025, fo16, h2031, hl2035, h1031, h1032, ap2034, ap2033, (Ap.or0 hs2030 (Ap.or0 hs2024 (Ap.alloc (OD.hb h986)) (Ap.alloc (OW.hb h990))) (Ap.alloc (OW.hb h989))), ap2032, (Ap.or0 hs2030 (Ap.or0 hs2024 (Ap.alloc (OD.hb h970)) (Ap.alloc (OW.hb h974))) (Ap.alloc (OW.hb h973))), (Ap.or0 hs2030 ap2026 (Ap.sub0 hs904 (Ap.or0 hs886 ap19 (Ap.fresh0 (OW.lb hO774) (by have := lt0; omega))))), (Ap.alloc (OW.hb h44)), (Ap.alloc (OW.hb h33)), (Ap.alloc (OW.hb h987)), (Ap.alloc (OW.hb h9)), (Ap.alloc (OW.hb h971)), ap20, (Ap.sym (Ap.or hs2030 ap2027 (Ap.sub hs904 (Ap.or hs886 (Ap.sym ap21) (Ap.fresh (OW.lb hO774) (OW.hb h764)))))), (Ap.alloc (OW.hb h45)), (Ap.alloc (OW.hb h34)), (Ap.alloc (OW.hb h988)), (Ap.alloc (OW.hb h13)), (Ap.alloc (OW.hb h972)), ap22, (Ap.sym (Ap.or hs2030 ap2028 (Ap.sub hs904 (Ap.or hs886 (Ap.sym ap23) (Ap.fresh (OW.lb hO774) (OW.hb h765)))))), ap24, hr⟩
 }
 {
 intro fr n H hI
 obtain ⟨x1666, xs1677, S1680, a1681, cap1682, xs1683, a1686, cap1687, xs1688, x1691, F1663, hfr, hS1664, hE1665, ho1667, fo1668, ho1669, fo1670, ho1671, fo1672, ho1673, fo1674, ho1675, fo1676, ho1692, fo1693, h1678, hl1679, h1684, h1689, ap1694, ap1695, ap1696, ap1697, ap1698, ap1699, ap1700, ap1701, ap1702, ap1703, ap1704, ap1705, ap1706, ap1707, ap1708, ap1709, ap1710, ap1711, ap1712, ap1713, ap1714, hr⟩ := hI
 rw [f_impl_Cluster_tick_L2] at hr
 cases hr
 }
 {
 intro k2 _ n1661 H1662 hI
 obtain ⟨x1666, xs1677, S1680, a1681, cap1682, xs1683, a1686, cap1687, xs1688, x1691, F1663, rfl, hS1664, hE1665, ho1667, fo1668, ho1669, fo1670, ho1671, fo1672, ho1673, fo1674, ho1675, fo1676, ho1692, fo1693, h1678, hl1679, h1684, h1689, ap1694, ap1695, ap1696, ap1697, ap1698, ap1699, ap1700, ap1701, ap1702, ap1703, ap1704, ap1705, ap1706, ap1707, ap1708, ap1709, ap1710, ap1711, ap1712, ap1713, ap1714, hr⟩ := hI
 have lt1715 := hS1664.lt ho1667
 have lt1716 := hS1664.lt ho1669
 have lt1717 := hS1664.lt ho1671
 have lt1718 := hS1664.lt ho1673
 have lt1719 := hS1664.lt ho1675
 have lt1720 := hS1664.lt ho1692
 have hlen1661 := hE1665.le
 have hlon1661 := hS1664.lo
 rw [f_impl_Cluster_tick_L2] at hr
 with_reducible refine W.seq ?_
 with_reducible refine W.region ?_
 refine WL.bin .nil rfl rfl rfl rfl rfl rfl ?_
 refine WL.nil ?_
 refine Ex.thn_norm ?_
 with_reducible refine W.seq ?_
 refine W.condD rfl (fun hc1722 => ?_) (fun hc1722 => ?_)
 {
 replace hr := ite_pos hr hc1722
 with_reducible refine W.skip ?_
 refine Ex.thn_norm ?_
 with_reducible refine W.seq ?_
 refine W.cut (fun fr n H => ∃ (xs1823 : (List GPeer)) (S1826 : Nat → Prop) (a1827 : Option Addr) (cap1828 : Nat) (xs1829 : (List GMsg)) (a1832 : Option Addr) (cap1833 : Nat) (xs1834 : (List GRec)) (x1837 : Bool) (F : Heap), fr = [(1, .int .i64 x18), (2, .func (.func 93) [].toArray [.pointer (some ⟨n0, 0, none⟩), .pointer (some ⟨(n0 + 1), 0, none⟩), .pointer (some ⟨((n0 + 1) + 1), 0, none⟩), .pointer (some ⟨n960, 0, none⟩), .pointer (some ⟨(n960 + 1), 0, none⟩)].toArray), (11, .int .i64 (x1.Peers.length : Int)), (12, .int .i64 x1666)] ∧ St lo n H F ∧ Ext n0 F0 n F ∧ H ((n0 + 1) + 1) = some (.row 1 [.pointer (some ⟨b47, el48, none⟩)]) ∧ F ((n0 + 1) + 1) = none ∧ H (n0 + 1) = some (.row 1 [.int .i64 x18]) ∧ F (n0 + 1) = none ∧ H (n960 + 1) = some (.row 1 [.int .i64 x959.2]) ∧ F (n960 + 1) = none ∧ H n0 = some (.row 1 [.pointer (some ⟨p0, 0, none⟩)]) ∧ F n0 = none ∧ H n960 = some (.row 1 [.int .i64 x959.1]) ∧ F n960 = none ∧ H p0 = some (.row ez0 [.slice a2 x1.Peers.length cap3, .slice a1827 xs1829.length cap1828, .slice a1832 xs1834.length cap1833, .bool x1837]) ∧ F p0 = none ∧ OD lo n H F S1826 [] (.slice a2 x1.Peers.length cap3) xs1823 ∧ x1.Peers.length = xs1823.length ∧ OW lo n H F (.slice a1827 xs1829.length cap1828) xs1829 ∧ OW lo n H F (.slice a1832 xs1834.length cap1833) xs1834 ∧ ¬ S1826 ((n0 + 1) + 1) ∧ ¬ S1826 (n0 + 1) ∧ ¬ S1826 (n960 + 1) ∧ ¬ S1826 n0 ∧ ¬ S1826 n960 ∧ ¬ S1826 p0 ∧ idOf (.slice a1827 xs1829.length cap1828) ≠ some ((n0 + 1) + 1) ∧ idOf (.slice a1827 xs1829.length cap1828) ≠ some (n0 + 1) ∧ idOf (.slice a1827 xs1829.length cap1828) ≠ some (n960 + 1) ∧ idOf (.slice a1827 xs1829.length cap1828) ≠ some n0 ∧ idOf (.slice a1827 xs1829.length cap1828) ≠ some n960 ∧ idOf (.slice a1827 xs1829.length cap1828) ≠ some p0 ∧ (∀ b, idOf (.slice a1827 xs1829.length cap1828) = some b → ¬ S1826 b) ∧ idOf (.slice a1832 xs1834.length cap1833) ≠ some ((n0 + 1) + 1) ∧ idOf (.slice a1832 xs1834.length cap1833) ≠ some (n0 + 1) ∧ idOf (.slice a1832 xs1834.length cap1833) ≠ some (n960 + 1) ∧ idOf (.slice a1832 xs1834.length cap1833) ≠ some n0 ∧ idOf (.slice a1832 xs1834.length cap1833) ≠ some n960 ∧ idOf (.slice a1832 xs1834.length cap1833) ≠ some p0 ∧ (∀ b, idOf (.slice a1832 xs1834.length cap1833) = some b → ¬ S1826 b) ∧ (∀ b, idOf (.slice a1832 xs1834.length cap1833) = some b → idOf (.slice a1827 xs1829.length cap1828) ≠ some b) ∧ f_impl_Cluster_tick_J3 x1666 (f_impl_Cluster_tick_L2 x1 x18 x959 k2) xs1823 xs1829 xs1834 x1837 = some res) ?_ ?_
 {
 with_reducible refine W.block ?_
 with_reducible refine W.seq ?_
 with_reducible refine W.region ?_
 refine WL.move .nil rfl rfl rfl rfl ?_
 refine WL.assign .nil rfl rfl rfl rfl ?_
 refine WL.nil ?_
 refine Ex.thn_norm ?_
 with_reducible refine W.seq ?_
 with_reducible refine W.region ?_
 refine WL.move .nil rfl rfl rfl rfl ?_
 refine WL.move .nil rfl rfl rfl rfl ?_
 refine WL.bin .nil rfl rfl rfl rfl rfl rfl ?_
 refine WL.nil ?_
 refine Ex.thn_norm ?_
 refine W.condN rfl (fun hc1868 => ?_) (fun hc1868 => ?_)
 {
 replace hr := ite_neg hr hc1868
 with_reducible refine W.region ?_
 refine WL.move .nil rfl rfl rfl rfl ?_
 refine WL.move .nil rfl rfl rfl rfl ?_
 refine GL.callIn (args := [.int .i64 x1666, .pointer (some ⟨n0, 0, none⟩), .pointer (some ⟨(n0 + 1), 0, none⟩), .pointer (some ⟨((n0 + 1) + 1), 0, none⟩), .pointer (some ⟨n960, 0, none⟩), .pointer (some ⟨(n960 + 1), 0, none⟩)]) .nil lo rfl rfl rfl rfl rfl rfl Try.func93 rfl rfl (Nat.le_refl _) hS1664.lo ?_
 refine C.body Try.func93 rfl rfl ?_
 refine W.regionD [0, 1, 2, 3, 4, 5, 6, 7, 8, 9, 10] [false, false, false, false, false, false, false, false, false, false, true] rfl rfl (by kernel_rfl) (by kernel_rfl) (by (conv => lhs; simp only [List.map_cons, List.map_nil, List.getD_cons_zero, List.getD_cons_succ]) <;> rfl) ?_
 refine WL.load1 .r rfl rfl rfl Try.underlying60 rfl rfl ho1673 rfl ?_
 refine WL.load1 .r rfl rfl rfl Try.underlying3 rfl rfl ho1669 rfl ?_
 refine WL.move .r rfl rfl rfl rfl ?_
 refine WL.load1 .r rfl rfl rfl Try.underlying88 rfl rfl ho1667 rfl ?_
 refine WL.nilCheck .r rfl rfl rfl rfl ?_
 refine WL.fieldAddr .r rfl rfl rfl Try.underlying42 rfl info3 rfl rfl ?_
 obtain ⟨x1869, hx1869, hr⟩ := bnd_some hr
 obtain ⟨c1870, ecs1871, hrow1872, hwin1873, hb1874⟩ := OD.get h1678 hp49 hx1869
 obtain ⟨a1875, cap1876, a1877, cap1878, a1879, cap1880, a1881, cap1882, rfl⟩ := GPeer.ofB hb1874
 refine WL.load1 .r rfl rfl rfl Try.underlying3 rfl rfl hrow1872 ((win_get (m := 1) hwin1873 (show (1 : Nat) < 9 by decide)).trans rfl) ?_
 refine WL.load1 .r rfl rfl rfl Try.underlying3 rfl rfl ho1675 rfl ?_
 refine WL.load1 .r rfl rfl rfl Try.underlying3 rfl rfl ho1671 rfl ?_
 refine WL.buildL .r (cells := [.int .i64 1, .int .i64 x18, .int .i64 x1666, .int .i64 x1869.Term, .int .i64 x959.1, .int .i64 x959.2, .int .i64 0, .bool false, .slice none 0 0]) rfl rfl rfl Try.underlying85 info85 rfl rfl rfl (by simp only [List.mapM_cons, List.mapM_nil, info3, info3, info3, info3, info3, info3, info3, info4, info28]; rfl) rfl (by first | rfl | ((conv => lhs; simp [splice, fillL, cells_int, cells_bool, cells_string, cells_str, cells_slice, cells_ptr, cells_map, cells_func, cells_nilFunc, cells_nilIface, cells_iface, cells_agg, cells_u8]) <;> rfl)) ?_
 obtain ⟨x1883, hx1883, hr⟩ := bnd_some hr
 refine GL.callIO g .w (fun i => (F1663 i).isSome = true ∨ i = p0 ∨ S1680 i ∨ idOf (.slice a1681 xs1683.length cap1682) = some i ∨ idOf (.slice a1686 xs1688.length cap1687) = some i) rfl rfl rfl rfl rfl rfl Try.func55 rfl rfl (Nat.le_refl _) hS1664.lo (f_impl_Cluster_send_k (x1 := ({ Peers := xs1677, Net := xs1683, Chosen := xs1688, Conflict := x1691 } : GCluster)) (x18 := ({ Kind := 1, From := x18, To := x1666, Term := x1869.Term, A := x959.1, B := x959.2, C := 0, Ok := false, Log := [] } : GMsg)) g (St.vis hS1664 (fun i hi => .inl hi)) (by rw [← hl1679]; exact vis_get ho1692 (.inr (.inl rfl))) fo1693 lo17 (OD.head hl1679 (OD.vis h1678 (fun i hi => (.inr (.inr (.inl hi)))))) (OW.vis h1684 (fun i hi => (.inr (.inr (.inr (.inl hi)))))) (OW.vis h1689 (fun i hi => (.inr (.inr (.inr (.inr (hi))))))) SR.nil ap1699 ap1705 ap1706 ap1712 ap1713 ap1714 hx1883) (fun v n1884 H1885 H1886 hn1887 hp1888 hle1889 hnew1890 hk1891 hd1892 => ?_)
 obtain ⟨F1903, S1894, a1896, cap1897, a1899, cap1900, hX1904, hS1902, ho1905, rfl, h1893, hl1895, h1898, h1901, ap1906, ap1907, ap1908, ap1909, ap1910, ap1911⟩ := hp1888
 have hS1912 : St lo n1884 H1885 _ := ⟨hS1902.lo, fun i hi => (hnew1890 i (by omega)).trans (hS1902.hb i hi), hS1902.fh.trans hle1889⟩
 have ho1913 := (hk1891 _ (by have := lt1715; omega) (fun hs => by
      rcases hs with h | h | h | h | h
      · rw [fo1668] at h; cases h
      · omega
      · exact ap1694 h
      · exact ap1700 h
      · exact ap1707 h)).trans ho1667
 have ho1914 := (hk1891 _ (by have := lt1716; omega) (fun hs => by
      rcases hs with h | h | h | h | h
      · rw [fo1670] at h; cases h
      · omega
      · exact ap1695 h
      · exact ap1701 h
      · exact ap1708 h)).trans ho1669
 have ho1915 := (hk1891 _ (by have := lt1717; omega) (fun hs => by
      rcases hs with h | h | h | h | h
      · rw [fo1672] at h; cases h
      · omega
      · exact ap1696 h
      · exact ap1702 h
      · exact ap1709 h)).trans ho1671
 have ho1916 := (hk1891 _ (by have := lt1718; omega) (fun hs => by
      rcases hs with h | h | h | h | h
      · rw [fo1674] at h; cases h
      · omega
      · exact ap1697 h
      · exact ap1703 h
      · exact ap1710 h)).trans ho1673
 have ho1917 := (hk1891 _ (by have := lt1719; omega) (fun hs => by
      rcases hs with h | h | h | h | h
      · rw [fo1676] at h; cases h
      · omega
      · exact ap1698 h
      · exact ap1704 h
      · exact ap1711 h)).trans ho1675
 have fo1918 := (hX1904.eq _ (by have := lt1715; omega)).trans fo1668
 have fo1919 := (hX1904.eq _ (by have := lt1716; omega)).trans fo1670
 have fo1920 := (hX1904.eq _ (by have := lt1717; omega)).trans fo1672
 have fo1921 := (hX1904.eq _ (by have := lt1718; omega)).trans fo1674
 have fo1922 := (hX1904.eq _ (by have := lt1719; omega)).trans fo1676
 have fo1923 := (hX1904.eq _ (by have := lt1720; omega)).trans fo1693
 have hE1924 := (hE1665.up (n' := n1661) (by omega)).trans hX1904
 have ho1925 := hle1889 _ _ ho1905
 have h1926 := OD.le h1893 hle1889
 have hl1927 : x1.Peers.length = x1883.Peers.length := hl1679.trans hl1895
 rw [← hl1679] at h1926
 have h1929 := OW.le h1898 hle1889
 have h1931 := OW.le h1901 hle1889
 rw [← hl1679] at ho1925
 have ap1932 : ¬ S1894 ((n0 + 1) + 1) := fun hj => (OD.after h1893 hd1892 hj).elim (fun h => by have := lt1715; omega) (fun hs => by
      rcases hs with h | h | h | h | h
      · rw [fo1668] at h; cases h
      · omega
      · exact ap1694 h
      · exact ap1700 h
      · exact ap1707 h)
 have ap1933 : ¬ S1894 (n0 + 1) := fun hj => (OD.after h1893 hd1892 hj).elim (fun h => by have := lt1716; omega) (fun hs => by
      rcases hs with h | h | h | h | h
      · rw [fo1670] at h; cases h
      · omega
      · exact ap1695 h
      · exact ap1701 h
      · exact ap1708 h)
 have ap1934 : ¬ S1894 (n960 + 1) := fun hj => (OD.after h1893 hd1892 hj).elim (fun h => by have := lt1717; omega) (fun hs => by
      rcases hs with h | h | h | h | h
      · rw [fo1672] at h; cases h
      · omega
      · exact ap1696 h
      · exact ap1702 h
      · exact ap1709 h)
 have ap1935 : ¬ S1894 n0 := fun hj => (OD.after h1893 hd1892 hj).elim (fun h => by have := lt1718; omega) (fun hs => by
      rcases hs with h | h | h | h | h
      · rw [fo1674] at h; cases h
      · omega
      · exact ap1697 h
      · exact ap1703 h
      · exact ap1710 h)
 have ap1936 : ¬ S1894 n960 := fun hj => (OD.after h1893 hd1892 hj).elim (fun h => by have := lt1719; omega) (fun hs => by
      rcases hs with h | h | h | h | h
      · rw [fo1676] at h; cases h
      · omega
      · exact ap1698 h
      · exact ap1704 h
      · exact ap1711 h)
 have ap1937 : idOf (.slice a1896 x1883.Net.length cap1897) ≠ some ((n0 + 1) + 1) := fun hj => (OW.after h1898 hd1892 hj).elim (fun h => by have := lt1715; omega) (fun hs => by
      rcases hs with h | h | h | h | h
      · rw [fo1668] at h; cases h
      · omega
      · exact ap1694 h
      · exact ap1700 h
      · exact ap1707 h)
 have ap1938 : idOf (.slice a1896 x1883.Net.length cap1897) ≠ some (n0 + 1) := fun hj => (OW.after h1898 hd1892 hj).elim (fun h => by have := lt1716; omega) (fun hs => by
      rcases hs with h | h | h | h | h
      · rw [fo1670] at h; cases h
      · omega
      · exact ap1695 h
      · exact ap1701 h
      · exact ap1708 h)
 have ap1939 : idOf (.slice a1896 x1883.Net.length cap1897) ≠ some (n960 + 1) := fun hj => (OW.after h1898 hd1892 hj).elim (fun h => by have := lt1717; omega) (fun hs => by
      rcases hs with h | h | h | h | h
      · rw [fo1672] at h; cases h
      · omega
      · exact ap1696 h
      · exact ap1702 h
      · exact ap1709 h)
 have ap1940 : idOf (.slice a1896 x1883.Net.length cap1897) ≠ some n0 := fun hj => (OW.after h1898 hd1892 hj).elim (fun h => by have := lt1718; omega) (fun hs => by
      rcases hs with h | h | h | h | h
      · rw [fo1674] at h; cases h
      · omega
      · exact ap1697 h
      · exact ap1703 h
      · exact ap1710 h)
 have ap1941 : idOf (.slice a1896 x1883.Net.length cap1897) ≠ some n960 := fun hj => (OW.after h1898 hd1892 hj).elim (fun h => by have := lt1719; omega) (fun hs => by
      rcases hs with h | h | h | h | h
      · rw [fo1676] at h; cases h
      · omega
      · exact ap1698 h
      · exact ap1704 h
      · exact ap1711 h)
 have ap1942 : idOf (.slice a1899 x1883.Chosen.length cap1900) ≠ some ((n0 + 1) + 1) := fun hj => (OW.after h1901 hd1892 hj).elim (fun h => by have := lt1715; omega) (fun hs => by
      rcases hs with h | h | h | h | h
      · rw [fo1668] at h; cases h
      · omega
      · exact ap1694 h
      · exact ap1700 h
      · exact ap1707 h)
 have ap1943 : idOf (.slice a1899 x1883.Chosen.length cap1900) ≠ some (n0 + 1) := fun hj => (OW.after h1901 hd1892 hj).elim (fun h => by have := lt1716; omega) (fun hs => by
      rcases hs with h | h | h | h | h
      · rw [fo1670] at h; cases h
      · omega
      · exact ap1695 h
      · exact ap1701 h
      · exact ap1708 h)
 have ap1944 : idOf (.slice a1899 x1883.Chosen.length cap1900) ≠ some (n960 + 1) := fun hj => (OW.after h1901 hd1892 hj).elim (fun h => by have := lt1717; omega) (fun hs => by
      rcases hs with h | h | h | h | h
      · rw [fo1672] at h; cases h
      · omega
      · exact ap1696 h
      · exact ap1702 h
      · exact ap1709 h)
 have ap1945 : idOf (.slice a1899 x1883.Chosen.length cap1900) ≠ some n0 := fun hj => (OW.after h1901 hd1892 hj).elim (fun h => by have := lt1718; omega) (fun hs => by
      rcases hs with h | h | h | h | h
      · rw [fo1674] at h; cases h
      · omega
      · exact ap1697 h
      · exact ap1703 h
      · exact ap1710 h)
 have ap1946 : idOf (.slice a1899 x1883.Chosen.length cap1900) ≠ some n960 := fun hj => (OW.after h1901 hd1892 hj).elim (fun h => by have := lt1719; omega) (fun hs => by
      rcases hs with h | h | h | h | h
      · rw [fo1676] at h; cases h
      · omega
      · exact ap1698 h
      · exact ap1704 h
      · exact ap1711 h)
 have hlon1884 := hS1912.lo
 have lt1947 := hS1912.lt ho1913
 have lt1948 := hS1912.lt ho1914
 have lt1949 := hS1912.lt ho1915
 have lt1950 := hS1912.lt ho1916
 have lt1951 := hS1912.lt ho1917
 have lt1952 := hS1912.lt ho1925
 refine WL.nil ?_
 refine ⟨.inl rfl, _, .nil, ?_⟩
 refine WL.nil ?_
 with_reducible refine Ex.blk_norm ?_
 refine Ex.thn_norm ?_
 exact ⟨[(1, .int .i64 x18), (2, .func (.func 93) [].toArray [.pointer (some ⟨n0, 0, none⟩), .pointer (some ⟨(n0 + 1), 0, none⟩), .pointer (some ⟨((n0 + 1) + 1), 0, none⟩), .pointer (some ⟨n960, 0, none⟩), .pointer (some ⟨(n960 + 1), 0, none⟩)].toArray), (11, .int .i64 (x1.Peers.length : Int)), (12, .int .i64 x1666)], (Fr.le_cons rfl (Fr.le_cons rfl (Fr.le_cons rfl (Fr.le_cons rfl Fr.le_nil)))), x1883.Peers, S1894, a1896, cap1897, x1883.Net, a1899, cap1900, x1883.Chosen, x1883.Conflict, F1903, rfl, hS1912, hE1924, ho1913, fo1918, ho1914, fo1919, ho1915, fo1920, ho1916, fo1921, ho1917, fo1922, ho1925, fo1923, h1926, hl1927, h1929, h1931, ap1932, ap1933, ap1934, ap1935, ap1936, ap1906, ap1937, ap1938, ap1939, ap1940, ap1941, ap1907, ap1909, ap1942, ap1943, ap1944, ap1945, ap1946, ap1908, ap1910, ap1911, hr⟩
 }
 {
 replace hr := ite_pos hr hc1868
 with_reducible refine W.skip ?_
 with_reducible refine Ex.blk_norm ?_
 refine Ex.thn_norm ?_
 exact ⟨[(1, .int .i64 x18), (2, .func (.func 93) [].toArray [.pointer (some ⟨n0, 0, none⟩), .pointer (some ⟨(n0 + 1), 0, none⟩), .pointer (some ⟨((n0 + 1) + 1), 0, none⟩), .pointer (some ⟨n960, 0, none⟩), .pointer (some ⟨(n960 + 1), 0, none⟩)].toArray), (11, .int .i64 (x1.Peers.length : Int)), (12, .int .i64 x1666)], (Fr.le_cons rfl (Fr.le_cons rfl (Fr.le_cons rfl (Fr.le_cons rfl Fr.le_nil)))), xs1677, S1680, a1681, cap1682, xs1683, a1686, cap1687, xs1688, x1691, F1663, rfl, hS1664, hE1665, ho1667, fo1668, ho1669, fo1670, ho1671, fo1672, ho1673, fo1674, ho1675, fo1676, ho1692, fo1693, h1678, hl1679, h1684, h1689, ap1694, ap1695, ap1696, ap1697, ap1698, ap1699, ap1700, ap1701, ap1702, ap1703, ap1704, ap1705, ap1706, ap1707, ap1708, ap1709, ap1710, ap1711, ap1712, ap1713, ap1714, hr⟩
 }
 }
 {
 intro _ n1808 H1809 hI
 obtain ⟨xs1823, S1826, a1827, cap1828, xs1829, a1832, cap1833, xs1834, x1837, F1810, rfl, hS1811, hE1812, ho1813, fo1814, ho1815, fo1816, ho1817, fo1818, ho1819, fo1820, ho1821, fo1822, ho1838, fo1839, h1824, hl1825, h1830, h1835, ap1840, ap1841, ap1842, ap1843, ap1844, ap1845, ap1846, ap1847, ap1848, ap1849, ap1850, ap1851, ap1852, ap1853, ap1854, ap1855, ap1856, ap1857, ap1858, ap1859, ap1860, hr⟩ := hI
 have lt1861 := hS1811.lt ho1813
 have lt1862 := hS1811.lt ho1815
 have lt1863 := hS1811.lt ho1817
 have lt1864 := hS1811.lt ho1819
 have lt1865 := hS1811.lt ho1821
 have lt1866 := hS1811.lt ho1838
 have hlen1808 := hE1812.le
 have hlon1808 := hS1811.lo
 unfold f_impl_Cluster_tick_J3 at hr
 with_reducible refine W.region ?_
 obtain ⟨hc1867, hr⟩ := chk_some hr
 refine WL.addI .nil rfl rfl rfl rfl rfl hc1867.1 hc1867.2 ?_
 refine WL.move .nil rfl rfl rfl rfl ?_
 refine WL.nil ?_
 refine Ex.thn_norm ?_
 exact ⟨[(1, .int .i64 x18), (2, .func (.func 93) [].toArray [.pointer (some ⟨n0, 0, none⟩), .pointer (some ⟨(n0 + 1), 0, none⟩), .pointer (some ⟨((n0 + 1) + 1), 0, none⟩), .pointer (some ⟨n960, 0, none⟩), .pointer (some ⟨(n960 + 1), 0, none⟩)].toArray), (11, .int .i64 (x1.Peers.length : Int)), (12, .int .i64 (x1666 + 1))], (Fr.le_cons rfl (Fr.le_cons rfl (Fr.le_cons rfl (Fr.le_cons rfl Fr.le_nil)))), (x1666 + 1), xs1823, S1826, a1827, cap1828, xs1829, a1832, cap1833, xs1834, x1837, F1810, rfl, hS1811, hE1812, ho1813, fo1814, ho1815, fo1816, ho1817, fo1818, ho1819, fo1820, ho1821, fo1822, ho1838, fo1839, h1824, hl1825, h1830, h1835, ap1840, ap1841, ap1842, ap1843, ap1844, ap1845, ap1846, ap1847, ap1848, ap1849, ap1850, ap1851, ap1852, ap1853, ap1854, ap1855, ap1856, ap1857, ap1858, ap1859, ap1860, hr⟩
 }
 }
 {
 replace hr := ite_neg hr hc1722
 with_reducible refine W.exit ?_
 with_reducible refine Ex.thn_ex ?_
 with_reducible refine Ex.thn_ex ?_
 with_reducible refine Ex.blk_here ?_
 refine ⟨.inl rfl, _, .nil, ?_⟩
 refine WL.nil ?_
 refine Ex.thn_norm ?_
 with_reducible refine W.region ?_
 refine WL.load1 .nil rfl rfl rfl Try.underlying60 rfl rfl ho1673 rfl ?_
 refine WL.load1 .nil rfl rfl rfl Try.underlying3 rfl rfl ho1669 rfl ?_
 obtain ⟨x1953, hx1953, hr⟩ := bnd_some hr
 refine GL.callIO g .nil (fun i => (F1663 i).isSome = true ∨ i = p0 ∨ S1680 i ∨ idOf (.slice a1681 xs1683.length cap1682) = some i ∨ idOf (.slice a1686 xs1688.length cap1687) = some i) rfl rfl rfl rfl rfl rfl Try.func87 rfl rfl (Nat.le_refl _) hS1664.lo (f_impl_Cluster_elect_k (x1 := ({ Peers := xs1677, Net := xs1683, Chosen := xs1688, Conflict := x1691 } : GCluster)) g (St.vis hS1664 (fun i hi => .inl hi)) (by rw [← hl1679]; exact vis_get ho1692 (.inr (.inl rfl))) fo1693 lo17 (OD.head hl1679 (OD.vis h1678 (fun i hi => (.inr (.inr (.inl hi)))))) (OW.vis h1684 (fun i hi => (.inr (.inr (.inr (.inl hi)))))) (OW.vis h1689 (fun i hi => (.inr (.inr (.inr (.inr (hi))))))) ap1699 ap1705 ap1706 ap1712 ap1713 ap1714 hx1953) (fun v n1954 H1955 H1956 hn1957 hp1958 hle1959 hnew1960 hk1961 hd1962 => ?_)
 obtain ⟨F1973, S1964, a1966, cap1967, a1969, cap1970, hX1974, hS1972, ho1975, rfl, h1963, hl1965, h1968, h1971, ap1976, ap1977, ap1978, ap1979, ap1980, ap1981⟩ := hp1958
 have hS1982 : St lo n1954 H1955 _ := ⟨hS1972.lo, fun i hi => (hnew1960 i (by omega)).trans (hS1972.hb i hi), hS1972.fh.trans hle1959⟩
 have ho1983 := (hk1961 _ (by have := lt1715; omega) (fun hs => by
      rcases hs with h | h | h | h | h
      · rw [fo1668] at h; cases h
      · omega
      · exact ap1694 h
      · exact ap1700 h
      · exact ap1707 h)).trans ho1667
 have ho1984 := (hk1961 _ (by have := lt1716; omega) (fun hs => by
      rcases hs with h | h | h | h | h
      · rw [fo1670] at h; cases h
      · omega
      · exact ap1695 h
      · exact ap1701 h
      · exact ap1708 h)).trans ho1669
 have ho1985 := (hk1961 _ (by have := lt1717; omega) (fun hs => by
      rcases hs with h | h | h | h | h
      · rw [fo1672] at h; cases h
      · omega
      · exact ap1696 h
      · exact ap1702 h
      · exact ap1709 h)).trans ho1671
 have ho1986 := (hk1961 _ (by have := lt1718; omega) (fun hs => by
      rcases hs with h | h | h | h | h
      · rw [fo1674] at h; cases h
      · omega
      · exact ap1697 h
      · exact ap1703 h
      · exact ap1710 h)).trans ho1673
 have ho1987 := (hk1961 _ (by have := lt1719; omega) (fun hs => by
      rcases hs with h | h | h | h | h
      · rw [fo1676] at h; cases h
      · omega
      · exact ap1698 h
      · exact ap1704 h
      · exact ap1711 h)).trans ho1675
 have fo1988 := (hX1974.eq _ (by have := lt1715; omega)).trans fo1668
 have fo1989 := (hX1974.eq _ (by have := lt1716; omega)).trans fo1670
 have fo1990 := (hX1974.eq _ (by have := lt1717; omega)).trans fo1672
 have fo1991 := (hX1974.eq _ (by have := lt1718; omega)).trans fo1674
 have fo1992 := (hX1974.eq _ (by have := lt1719; omega)).trans fo1676
 have fo1993 := (hX1974.eq _ (by have := lt1720; omega)).trans fo1693
 have hE1994 := (hE1665.up (n' := n1661) (by omega)).trans hX1974
 have ho1995 := hle1959 _ _ ho1975
 have h1996 := OD.le h1963 hle1959
 have hl1997 : x1.Peers.length = x1953.Peers.length := hl1679.trans hl1965
 rw [← hl1679] at h1996
 have h1999 := OW.le h1968 hle1959
 have h2001 := OW.le h1971 hle1959
 rw [← hl1679] at ho1995
 have ap2002 : ¬ S1964 ((n0 + 1) + 1) := fun hj => (OD.after h1963 hd1962 hj).elim (fun h => by have := lt1715; omega) (fun hs => by
      rcases hs with h | h | h | h | h
      · rw [fo1668] at h; cases h
      · omega
      · exact ap1694 h
      · exact ap1700 h
      · exact ap1707 h)
 have ap2003 : ¬ S1964 (n0 + 1) := fun hj => (OD.after h1963 hd1962 hj).elim (fun h => by have := lt1716; omega) (fun hs => by
      rcases hs with h | h | h | h | h
      · rw [fo1670] at h; cases h
      · omega
      · exact ap1695 h
      · exact ap1701 h
      · exact ap1708 h)
 have ap2004 : ¬ S1964 (n960 + 1) := fun hj => (OD.after h1963 hd1962 hj).elim (fun h => by have := lt1717; omega) (fun hs => by
      rcases hs with h | h | h | h | h
      · rw [fo1672] at h; cases h
      · omega
      · exact ap1696 h
      · exact ap1702 h
      · exact ap1709 h)
 have ap2005 : ¬ S1964 n0 := fun hj => (OD.after h1963 hd1962 hj).elim (fun h => by have := lt1718; omega) (fun hs => by
      rcases hs with h | h | h | h | h
      · rw [fo1674] at h; cases h
      · omega
      · exact ap1697 h
      · exact ap1703 h
      · exact ap1710 h)
 have ap2006 : ¬ S1964 n960 := fun hj => (OD.after h1963 hd1962 hj).elim (fun h => by have := lt1719; omega) (fun hs => by
      rcases hs with h | h | h | h | h
      · rw [fo1676] at h; cases h
      · omega
      · exact ap1698 h
      · exact ap1704 h
      · exact ap1711 h)
 have ap2007 : idOf (.slice a1966 x1953.Net.length cap1967) ≠ some ((n0 + 1) + 1) := fun hj => (OW.after h1968 hd1962 hj).elim (fun h => by have := lt1715; omega) (fun hs => by
      rcases hs with h | h | h | h | h
      · rw [fo1668] at h; cases h
      · omega
      · exact ap1694 h
      · exact ap1700 h
      · exact ap1707 h)
 have ap2008 : idOf (.slice a1966 x1953.Net.length cap1967) ≠ some (n0 + 1) := fun hj => (OW.after h1968 hd1962 hj).elim (fun h => by have := lt1716; omega) (fun hs => by
      rcases hs with h | h | h | h | h
      · rw [fo1670] at h; cases h
      · omega
      · exact ap1695 h
      · exact ap1701 h
      · exact ap1708 h)
 have ap2009 : idOf (.slice a1966 x1953.Net.length cap1967) ≠ some (n960 + 1) := fun hj => (OW.after h1968 hd1962 hj).elim (fun h => by have := lt1717; omega) (fun hs => by
      rcases hs with h | h | h | h | h
      · rw [fo1672] at h; cases h
      · omega
      · exact ap1696 h
      · exact ap1702 h
      · exact ap1709 h)
 have ap2010 : idOf (.slice a1966 x1953.Net.length cap1967) ≠ some n0 := fun hj => (OW.after h1968 hd1962 hj).elim (fun h => by have := lt1718; omega) (fun hs => by
      rcases hs with h | h | h | h | h
      · rw [fo1674] at h; cases h
      · omega
      · exact ap1697 h
      · exact ap1703 h
      · exact ap1710 h)
 have ap2011 : idOf (.slice a1966 x1953.Net.length cap1967) ≠ some n960 := fun hj => (OW.after h1968 hd1962 hj).elim (fun h => by have := lt1719; omega) (fun hs => by
      rcases hs with h | h | h | h | h
      · rw [fo1676] at h; cases h
      · omega
      · exact ap1698 h
      · exact ap1704 h
      · exact ap1711 h)
 have ap2012 : idOf (.slice a1969 x1953.Chosen.length cap1970) ≠ some ((n0 + 1) + 1) := fun hj => (OW.after h1971 hd1962 hj).elim (fun h => by have := lt1715; omega) (fun hs => by
      rcases hs with h | h | h | h | h
      · rw [fo1668] at h; cases h
      · omega
      · exact ap1694 h
      · exact ap1700 h
      · exact ap1707 h)
 have ap2013 : idOf (.slice a1969 x1953.Chosen.length cap1970) ≠ some (n0 + 1) := fun hj => (OW.after h1971 hd1962 hj).elim (fun h => by have := lt1716; omega) (fun hs => by
      rcases hs with h | h | h | h | h
      · rw [fo1670] at h; cases h
      · omega
      · exact ap1695 h
      · exact ap1701 h
      · exact ap1708 h)
 have ap2014 : idOf (.slice a1969 x1953.Chosen.length cap1970) ≠ some (n960 + 1) := fun hj => (OW.after h1971 hd1962 hj).elim (fun h => by have := lt1717; omega) (fun hs => by
      rcases hs with h | h | h | h | h
      · rw [fo1672] at h; cases h
      · omega
      · exact ap1696 h
      · exact ap1702 h
      · exact ap1709 h)
 have ap2015 : idOf (.slice a1969 x1953.Chosen.length cap1970) ≠ some n0 := fun hj => (OW.after h1971 hd1962 hj).elim (fun h => by have := lt1718; omega) (fun hs => by
      rcases hs with h | h | h | h | h
      · rw [fo1674] at h; cases h
      · omega
      · exact ap1697 h
      · exact ap1703 h
      · exact ap1710 h)
 have ap2016 : idOf (.slice a1969 x1953.Chosen.length cap1970) ≠ some n960 := fun hj => (OW.after h1971 hd1962 hj).elim (fun h => by have := lt1719; omega) (fun hs => by
      rcases hs with h | h | h | h | h
      · rw [fo1676] at h; cases h
      · omega
      · exact ap1698 h
      · exact ap1704 h
      · exact ap1711 h)
 have hlon1954 := hS1982.lo
 have lt2017 := hS1982.lt ho1983
 have lt2018 := hS1982.lt ho1984
 have lt2019 := hS1982.lt ho1985
 have lt2020 := hS1982.lt ho1986
 have lt2021 := hS1982.lt ho1987
 have lt2022 := hS1982.lt ho1995
 refine WL.nil ?_
 with_reducible refine Ex.blk_norm ?_
 obtain rfl := Option.some.inj hr
 exact ⟨.inl rfl, _, .nil, ⟨F1973, S1964, a1966, cap1967, a1969, cap1970, (hE1994.up (by omega)), hS1982, ho1995, rfl, h1996, hl1997, h1999, h2001, ap1976, ap1977, ap1978, ap1979, ap1980, ap1981⟩⟩
 }
 }
 }
 {
 replace hr := ite_neg hr hc650
 with_reducible refine W.skip ?_
 with_reducible refine Ex.blk_norm ?_
 obtain rfl := Option.some.inj hr
 exact ⟨.inl rfl, _, .nil, ⟨F0, S6, a7, cap8, a11, cap12, (hE0.up (by omega)), hS63, ho66, rfl, h69, rfl, h70, h71, ap19, ap20, ap22, ap21, ap23, ap24⟩⟩
 }
 }
theorem f_impl_Cluster_event_k {Δ : Prims} (g : Env Try.prog Δ) {lo n0 : Nat} {H0 F0 : Heap} (hS : St lo n0 H0 F0) {p0 : Nat} {x1 : GCluster} {ez0 : Nat} {a2 : Option Addr} {cap3 : Nat} {S6 : Nat → Prop} {a7 : Option Addr} {cap8 : Nat} {a11 : Option Addr} {cap12 : Nat} {x18 : GEvent} {a19 : Option Addr} {cap20 : Nat} (ho15 : H0 p0 = some (.row ez0 [.slice a2 x1.Peers.length cap3, .slice a7 x1.Net.length cap8, .slice a11 x1.Chosen.length cap12, .bool x1.Conflict])) (fo16 : F0 p0 = none) (lo17 : lo ≤ p0) (h4 : OD lo n0 H0 F0 S6 [] (.slice a2 x1.Peers.length cap3) x1.Peers) (h9 : OW lo n0 H0 F0 (.slice a7 x1.Net.length cap8) x1.Net) (h13 : OW lo n0 H0 F0 (.slice a11 x1.Chosen.length cap12) x1.Chosen) (h21 : SR F0 (.slice a19 x18.Data.length cap20) x18.Data) (ap22 : ¬ S6 p0) (ap23 : idOf (.slice a7 x1.Net.length cap8) ≠ some p0) (ap24 : ∀ b, idOf (.slice a7 x1.Net.length cap8) = some b → ¬ S6 b) (ap25 : idOf (.slice a11 x1.Chosen.length cap12) ≠ some p0) (ap26 : ∀ b, idOf (.slice a11 x1.Chosen.length cap12) = some b → ¬ S6 b) (ap27 : ∀ b, idOf (.slice a11 x1.Chosen.length cap12) = some b → idOf (.slice a7 x1.Net.length cap8) ≠ some b) {res : (GCluster × Int)} (hr : f_impl_Cluster_event x1 x18 = some res) :
    C Try.prog Δ lo 32 [.pointer (some ⟨p0, 0, none⟩), .agg [.int .i64 x18.Kind, .int .i64 x18.N, .slice a19 x18.Data.length cap20].toArray] n0 H0 (fun v n H => ∃ (F : Heap) (rS2 : Nat → Prop) (ra4 : Option Addr) (rcap5 : Nat) (ra7 : Option Addr) (rcap8 : Nat), Ext n0 F0 n F ∧ St lo n H F ∧ H p0 = some (.row ez0 [.slice a2 x1.Peers.length cap3, .slice ra4 res.1.Net.length rcap5, .slice ra7 res.1.Chosen.length rcap8, .bool res.1.Conflict]) ∧ v = .int .i64 res.2 ∧ OD lo n H F rS2 [] (.slice a2 x1.Peers.length cap3) res.1.Peers ∧ x1.Peers.length = res.1.Peers.length ∧ OW lo n H F (.slice ra4 res.1.Net.length rcap5) res.1.Net ∧ OW lo n H F (.slice ra7 res.1.Chosen.length rcap8) res.1.Chosen ∧ ¬ rS2 p0 ∧ idOf (.slice ra4 res.1.Net.length rcap5) ≠ some p0 ∧ idOf (.slice ra7 res.1.Chosen.length rcap8) ≠ some p0 ∧ (∀ b, idOf (.slice ra4 res.1.Net.length rcap5) = some b → ¬ rS2 b) ∧ (∀ b, idOf (.slice ra7 res.1.Chosen.length rcap8) = some b → ¬ rS2 b) ∧ (∀ b, idOf (.slice ra7 res.1.Chosen.length rcap8) = some b → idOf (.slice ra4 res.1.Net.length rcap5) ≠ some b)) := by
 refine C.body Try.func32 rfl rfl ?_
 unfold f_impl_Cluster_event at hr
 have hS0 : St lo n0 H0 F0 := hS
 have hE0 := Ext.refl n0 F0
 have hlo0 := hS0.lo
 have lt0 := hS0.lt ho15
 with_reducible refine W.seq ?_
 with_reducible refine W.region ?_
 refine GL.box hS0 .nil (vc := [.int .i64 x18.Kind, .int .i64 x18.N, .slice a19 x18.Data.length cap20]) rfl rfl rfl rfl rfl (by repeat' (first | exact List.forall_mem_nil _ | refine List.forall_mem_cons.2 ⟨?_, ?_⟩ | rfl)) (fun H28 hS29 ho30 hk31 => ?_)
 have fo32 := hS0.fnone (Nat.le_refl _)
 have ho34 := (hk31 _ (by have := lt0; omega)).trans ho15
 have h35 := OD.keep (n' := (n0 + 1)) h4 (by omega) (fun i hi => hk31 i (OD.id_lt h4 hi).2)
 have h36 := OW.keep (n' := (n0 + 1)) h9 (by omega) (fun i hi => hk31 i (OW.id_lt h9 hi).2)
 have h37 := OW.keep (n' := (n0 + 1)) h13 (by omega) (fun i hi => hk31 i (OW.id_lt h13 hi).2)
 have hlon01 := hS29.lo
 have lt33 : n0 < (n0 + 1) := by omega
 refine WL.assign .nil rfl rfl rfl rfl ?_
 refine WL.nil ?_
 refine Ex.thn_norm ?_
 with_reducible refine W.seq ?_
 with_reducible refine W.seq ?_
 with_reducible refine W.region ?_
 refine WL.fieldAddr .nil rfl rfl rfl Try.underlying24 rfl info3 rfl rfl ?_
 refine WL.load1 .nil rfl rfl rfl Try.underlying3 rfl rfl ho30 rfl ?_
 refine WL.nil ?_
 refine Ex.thn_norm ?_
 with_reducible refine W.block ?_
 with_reducible refine W.seq ?_
 with_reducible refine W.seq ?_
 with_reducible refine W.region ?_
 refine WL.bin .nil rfl rfl rfl rfl rfl rfl ?_
 refine WL.assign .nil rfl rfl rfl rfl ?_
 refine WL.nil ?_
 refine Ex.thn_norm ?_
 refine W.cut (fun fr n H => ∃ (x344 : Bool) (S349 : Nat → Prop) (F : Heap), fr = [(0, .pointer (some ⟨p0, 0, none⟩)), (3, .pointer (some ⟨n0, 0, none⟩)), (8, .int .i64 x18.Kind), (9, .bool x344)] ∧ St lo n H F ∧ Ext n0 F0 n F ∧ H n0 = some (.row 1 [.int .i64 x18.Kind, .int .i64 x18.N, .slice a19 x18.Data.length cap20]) ∧ F n0 = none ∧ H p0 = some (.row ez0 [.slice a2 x1.Peers.length cap3, .slice a7 x1.Net.length cap8, .slice a11 x1.Chosen.length cap12, .bool x1.Conflict]) ∧ F p0 = none ∧ SR F (.slice a19 x18.Data.length cap20) x18.Data ∧ OD lo n H F S349 [] (.slice a2 x1.Peers.length cap3) x1.Peers ∧ OW lo n H F (.slice a7 x1.Net.length cap8) x1.Net ∧ OW lo n H F (.slice a11 x1.Chosen.length cap12) x1.Chosen ∧ ¬ S349 n0 ∧ ¬ S349 p0 ∧ idOf (.slice a7 x1.Net.length cap8) ≠ some n0 ∧ idOf (.slice a7 x1.Net.length cap8) ≠ some p0 ∧ (∀ b, idOf (.slice a7 x1.Net.length cap8) = some b → ¬ S349 b) ∧ idOf (.slice a11 x1.Chosen.length cap12) ≠ some n0 ∧ idOf (.slice a11 x1.Chosen.length cap12) ≠ some p0 ∧ (∀ b, idOf (.slice a11 x1.Chosen.length cap12) = some b → ¬ S349 b) ∧ (∀ b, idOf (.slice a11 x1.Chosen.length cap12) = some b → idOf (.slice a7 x1.Net.length cap8) ≠ some b) ∧ f_impl_Cluster_event_J0 x1 x18 x344 = some res) ?_ ?_
 {
 refine W.condD rfl (fun hc1096 => ?_) (fun hc1096 => ?_)
 {
 replace hr := ite_pos hr hc1096
 with_reducible refine W.skip ?_
 refine Ex.thn_norm ?_
 exact ⟨[(0, .pointer (some ⟨p0, 0, none⟩)), (3, .pointer (some ⟨n0, 0, none⟩)), (8, .int .i64 x18.Kind), (9, .bool (decide (x18.Kind = 2)))], (Fr.le_cons rfl (Fr.le_cons rfl (Fr.le_cons rfl (Fr.le_cons rfl Fr.le_nil)))), (decide (x18.Kind = 2)), S6, F0, rfl, hS29, (hE0.up (by omega)), ho30, fo32, ho34, fo16, h21, h35, h36, h37, (Ap.alloc (OD.hb h4)), ap22, (Ap.alloc (OW.hb h9)), ap23, ap24, (Ap.alloc (OW.hb h13)), ap25, ap26, ap27, hr⟩
 }
 {
 replace hr := ite_neg hr hc1096
 with_reducible refine W.seq ?_
 with_reducible refine W.region ?_
 refine WL.bin .nil rfl rfl rfl rfl rfl rfl ?_
 refine WL.assign .nil rfl rfl rfl rfl ?_
 refine WL.nil ?_
 refine Ex.thn_norm ?_
 refine W.condD rfl (fun hc1097 => ?_) (fun hc1097 => ?_)
 {
 replace hr := ite_pos hr hc1097
 with_reducible refine W.skip ?_
 refine Ex.thn_norm ?_
 exact ⟨[(0, .pointer (some ⟨p0, 0, none⟩)), (3, .pointer (some ⟨n0, 0, none⟩)), (8, .int .i64 x18.Kind), (9, .bool (decide (x18.Kind = 3)))], (Fr.le_cons rfl (Fr.le_cons rfl (Fr.le_cons rfl (Fr.le_cons rfl Fr.le_nil)))), (decide (x18.Kind = 3)), S6, F0, rfl, hS29, (hE0.up (by omega)), ho30, fo32, ho34, fo16, h21, h35, h36, h37, (Ap.alloc (OD.hb h4)), ap22, (Ap.alloc (OW.hb h9)), ap23, ap24, (Ap.alloc (OW.hb h13)), ap25, ap26, ap27, hr⟩
 }
 {
 replace hr := ite_neg hr hc1097
 with_reducible refine W.region ?_
 refine WL.bin .nil rfl rfl rfl rfl rfl rfl ?_
 refine WL.assign .nil rfl rfl rfl rfl ?_
 refine WL.nil ?_
 refine Ex.thn_norm ?_
 exact ⟨[(0, .pointer (some ⟨p0, 0, none⟩)), (3, .pointer (some ⟨n0, 0, none⟩)), (8, .int .i64 x18.Kind), (9, .bool (decide (x18.Kind = 4)))], (Fr.le_cons rfl (Fr.le_cons rfl (Fr.le_cons rfl (Fr.le_cons rfl Fr.le_nil)))), (decide (x18.Kind = 4)), S6, F0, rfl, hS29, (hE0.up (by omega)), ho30, fo32, ho34, fo16, h21, h35, h36, h37, (Ap.alloc (OD.hb h4)), ap22, (Ap.alloc (OW.hb h9)), ap23, ap24, (Ap.alloc (OW.hb h13)), ap25, ap26, ap27, hr⟩
 }
 }
 }
 {
 intro _ n339 H340 hI
 obtain ⟨x344, S349, F341, rfl, hS342, hE343, ho346, fo347, ho352, fo353, h345, h348, h350, h351, ap354, ap355, ap356, ap357, ap358, ap359, ap360, ap361, ap362, hr⟩ := hI
 have lt363 := hS342.lt ho346
 have lt364 := hS342.lt ho352
 have hlen339 := hE343.le
 have hlon339 := hS342.lo
 unfold f_impl_Cluster_event_J0 at hr
 refine W.cond rfl (fun hc365 => ?_) (fun hc365 => ?_)
 {
 replace hr := iteB_pos hr hc365
 with_reducible refine W.seq ?_
 with_reducible refine W.seq ?_
 refine W.regionD [0, 1, 2, 3, 4, 5, 6, 7, 8, 9] [false, false, false, false, false, false, false, false, false, false] rfl rfl (by kernel_rfl) (by kernel_rfl) (by (conv => lhs; simp only [List.map_cons, List.map_nil, List.getD_cons_zero, List.getD_cons_succ]) <;> rfl) ?_
 refine WL.fieldAddr .r rfl rfl rfl Try.underlying24 rfl info3 rfl rfl ?_
 refine WL.load1 .r rfl rfl rfl Try.underlying3 rfl rfl ho346 rfl ?_
 refine WL.move .r rfl rfl rfl rfl ?_
 refine WL.nilCheck .r rfl rfl rfl rfl ?_
 refine WL.fieldAddr .r rfl rfl rfl Try.underlying30 rfl info27 rfl rfl ?_
 refine WL.load1 .r rfl rfl rfl Try.underlying27 rfl rfl ho352 rfl ?_
 refine WL.len .r rfl rfl rfl Try.underlying27 rfl ?_
 obtain ⟨hc366, hr⟩ := chk_some hr
 refine WL.subI .r rfl rfl rfl rfl rfl hc366.1 hc366.2 ?_
 obtain ⟨x367, hx367, hr⟩ := bnd_some hr
 refine GL.callP g.good .r rfl rfl rfl rfl rfl rfl Try.func30 rfl rfl (Nat.le_refl _) (f_impl_within_k  g hS342 hx367) (fun v n368 H369 hn370 hk371 hp372 => ?_)
 obtain ⟨hS373, rfl⟩ := hp372
 have ho374 := (hk371 _ (by have := lt363; omega)).trans ho346
 have ho375 := (hk371 _ (by have := lt364; omega)).trans ho352
 have h376 := OD.keep (n' := n368) h348 (by omega) (fun i hi => hk371 i (OD.id_lt h348 hi).2)
 have h377 := OW.keep (n' := n368) h350 (by omega) (fun i hi => hk371 i (OW.id_lt h350 hi).2)
 have h378 := OW.keep (n' := n368) h351 (by omega) (fun i hi => hk371 i (OW.id_lt h351 hi).2)
 have hS379 : St lo n368 H369 F341 := ⟨by have := hS342.lo; omega, hS373.hb, hS373.fh⟩
 have hlon368 := hS379.lo
 refine WL.not .r rfl rfl rfl rfl ?_
 refine WL.nil ?_
 refine Ex.thn_norm ?_
 refine W.cond rfl (fun hc381 => ?_) (fun hc381 => ?_)
 {
 replace hr := iteB_pos hr hc381
 with_reducible refine W.seq ?_
 with_reducible refine W.region ?_
 refine WL.assign .nil rfl rfl rfl rfl ?_
 refine WL.nil ?_
 refine Ex.thn_norm ?_
 with_reducible refine W.ret ?_
 with_reducible refine Ex.thn_ret ?_
 with_reducible refine Ex.blk_ret ?_
 with_reducible refine Ex.thn_ret ?_
 obtain rfl := Option.some.inj hr
 exact ⟨.inr rfl, _, (.cons (.tmp rfl) .nil), ⟨F341, S349, a7, cap8, a11, cap12, (hE343.up (by omega)), hS379, ho375, rfl, h376, rfl, h377, h378, ap355, ap357, ap360, ap358, ap361, ap362⟩⟩
 }
 {
 replace hr := iteB_neg hr hc381
 with_reducible refine W.skip ?_
 refine Ex.thn_norm ?_
 with_reducible refine W.seq ?_
 refine W.regionD [0, 1, 2, 3, 4, 5, 6, 7, 8, 9] [false, false, false, false, false, false, false, false, false, true] rfl rfl (by kernel_rfl) (by kernel_rfl) (by (conv => lhs; simp only [List.map_cons, List.map_nil, List.getD_cons_zero, List.getD_cons_succ]) <;> rfl) ?_
 refine WL.move .r rfl rfl rfl rfl ?_
 refine WL.nilCheck .r rfl rfl rfl rfl ?_
 refine WL.fieldAddr .r rfl rfl rfl Try.underlying30 rfl info27 rfl rfl ?_
 refine WL.load1 .r rfl rfl rfl Try.underlying27 rfl rfl ho375 rfl ?_
 refine WL.fieldAddr .r rfl rfl rfl Try.underlying24 rfl info3 rfl rfl ?_
 refine WL.load1 .r rfl rfl rfl Try.underlying3 rfl rfl ho374 rfl ?_
 obtain ⟨x382, hx382, hr⟩ := bnd_some hr
 refine GL.indexO .r rfl rfl rfl Try.underlying27 info85 rfl rfl h377 rfl hx382 (fun b383 kp384 c385 ecs386 hid390 hrow387 hwin388 hR389 hup391 => ?_)
 obtain ⟨a392, cap393, rfl, h394⟩ := GMsg.ofR hR389
 refine WL.loadN .r (l' := [.int .i64 x382.Kind, .int .i64 x382.From, .int .i64 x382.To, .int .i64 x382.Term, .int .i64 x382.A, .int .i64 x382.B, .int .i64 x382.C, .bool x382.Ok, .slice a392 x382.Log.length cap393]) rfl rfl rfl Try.underlying85 rfl info85 rfl hrow387 hwin388 rfl ?_
 refine GL.alloc hS379 .r (zc := [.int .i64 0, .int .i64 0, .int .i64 0, .int .i64 0, .int .i64 0, .int .i64 0, .int .i64 0, .bool false, .slice none 0 0]) rfl rfl rfl info85 rfl rfl rfl (fun H395 hS396 ho397 hk398 => ?_)
 have fo399 := hS379.fnone (Nat.le_refl _)
 have ho401 := (hk398 _ (by have := lt363; omega)).trans ho374
 have ho402 := (hk398 _ (by have := lt364; omega)).trans ho375
 have h403 := OD.keep (n' := (n368 + 1)) h376 (by omega) (fun i hi => hk398 i (OD.id_lt h376 hi).2)
 have h404 := OW.keep (n' := (n368 + 1)) h377 (by omega) (fun i hi => hk398 i (OW.id_lt h377 hi).2)
 have h405 := OW.keep (n' := (n368 + 1)) h378 (by omega) (fun i hi => hk398 i (OW.id_lt h378 hi).2)
 have hlon3681 := hS396.lo
 have lt400 : n368 < (n368 + 1) := by omega
 refine GL.store hS396 .w (vc := [.int .i64 x382.Kind, .int .i64 x382.From, .int .i64 x382.To, .int .i64 x382.Term, .int .i64 x382.A, .int .i64 x382.B, .int .i64 x382.C, .bool x382.Ok, .slice a392 x382.Log.length cap393]) (c' := [.int .i64 x382.Kind, .int .i64 x382.From, .int .i64 x382.To, .int .i64 x382.Term, .int .i64 x382.A, .int .i64 x382.B, .int .i64 x382.C, .bool x382.Ok, .slice a392 x382.Log.length cap393]) rfl rfl rfl info85 rfl rfl rfl rfl ho397 fo399 (Nat.le_of_ble_eq_true rfl) (by omega) (by repeat' (first | exact List.forall_mem_nil _ | refine List.forall_mem_cons.2 ⟨?_, ?_⟩ | rfl)) rfl (fun H406 hS407 ho408 hk409 => ?_)
 have ho410 := (hk409 _ (by omega)).trans ho401
 have ho411 := (hk409 _ (by omega)).trans ho402
 have h412 := OD.keep h403 (Nat.le_refl _) (fun i hi => hk409 i (fun hj => (Ap.alloc (OD.hb h376)) (hj ▸ hi)))
 have h413 := OW.keep h404 (Nat.le_refl _) (fun i hi => hk409 i (fun hj => (Ap.alloc (OW.hb h377)) (hj ▸ hi)))
 have h414 := OW.keep h405 (Nat.le_refl _) (fun i hi => hk409 i (fun hj => (Ap.alloc (OW.hb h378)) (hj ▸ hi)))
 refine WL.nil ?_
 refine Ex.thn_norm ?_
 with_reducible refine W.seq ?_
 with_reducible refine W.seq ?_
 with_reducible refine W.region ?_
 refine WL.fieldAddr .nil rfl rfl rfl Try.underlying24 rfl info3 rfl rfl ?_
 refine WL.load1 .nil rfl rfl rfl Try.underlying3 rfl rfl ho410 rfl ?_
 refine WL.bin .nil rfl rfl rfl rfl rfl rfl ?_
 refine WL.nil ?_
 refine Ex.thn_norm ?_
 refine W.condD rfl (fun hc468 => ?_) (fun hc468 => ?_)
 {
 replace hr := ite_pos hr hc468
 with_reducible refine W.seq ?_
 with_reducible refine W.region ?_
 refine WL.move .nil rfl rfl rfl rfl ?_
 refine WL.loadN .nil (l' := [.int .i64 x382.Kind, .int .i64 x382.From, .int .i64 x382.To, .int .i64 x382.Term, .int .i64 x382.A, .int .i64 x382.B, .int .i64 x382.C, .bool x382.Ok, .slice a392 x382.Log.length cap393]) rfl rfl rfl Try.underlying85 rfl info85 rfl ho408 rfl rfl ?_
 obtain ⟨x469, hx469, hr⟩ := bnd_some hr
 refine GL.callIO g .nil (fun i => (F341 i).isSome = true ∨ i = p0 ∨ S349 i ∨ idOf (.slice a7 x1.Net.length cap8) = some i ∨ idOf (.slice a11 x1.Chosen.length cap12) = some i) rfl rfl rfl rfl rfl rfl Try.func55 rfl rfl (Nat.le_refl _) hS407.lo (f_impl_Cluster_send_k (x1 := ({ Peers := x1.Peers, Net := x1.Net, Chosen := x1.Chosen, Conflict := x1.Conflict } : GCluster)) (x18 := ({ Kind := x382.Kind, From := x382.From, To := x382.To, Term := x382.Term, A := x382.A, B := x382.B, C := x382.C, Ok := x382.Ok, Log := x382.Log } : GMsg)) g (St.vis hS407 (fun i hi => .inl hi)) (vis_get ho411 (.inr (.inl rfl))) fo353 lo17 (OD.vis h412 (fun i hi => (.inr (.inr (.inl hi))))) (OW.vis h413 (fun i hi => (.inr (.inr (.inr (.inl hi)))))) (OW.vis h414 (fun i hi => (.inr (.inr (.inr (.inr (hi))))))) h394 ap355 ap357 ap358 ap360 ap361 ap362 hx469) (fun v n470 H471 H472 hn473 hp474 hle475 hnew476 hk477 hd478 => ?_)
 obtain ⟨F489, S480, a482, cap483, a485, cap486, hX490, hS488, ho491, rfl, h479, hl481, h484, h487, ap492, ap493, ap494, ap495, ap496, ap497⟩ := hp474
 have hS498 : St lo n470 H471 _ := ⟨hS488.lo, fun i hi => (hnew476 i (by omega)).trans (hS488.hb i hi), hS488.fh.trans hle475⟩
 have ho499 := (hk477 _ (by have := lt363; omega) (fun hs => by
      rcases hs with h | h | h | h | h
      · rw [fo347] at h; cases h
      · omega
      · exact ap354 h
      · exact ap356 h
      · exact ap359 h)).trans ho410
 have ho500 := (hk477 _ (by have := lt400; omega) (fun hs => by
      rcases hs with h | h | h | h | h
      · rw [fo399] at h; cases h
      · omega
      · exact (Ap.alloc (OD.hb h376)) h
      · exact (Ap.alloc (OW.hb h377)) h
      · exact (Ap.alloc (OW.hb h378)) h)).trans ho408
 have fo501 := (hX490.eq _ (by have := lt363; omega)).trans fo347
 have fo502 := (hX490.eq _ (by have := lt364; omega)).trans fo353
 have fo503 := (hX490.eq _ (by have := lt400; omega)).trans fo399
 have hE504 := (hE343.up (n' := (n368 + 1)) (by omega)).trans hX490
 have ho505 := hle475 _ _ ho491
 have h506 := OD.le h479 hle475
 have hl507 : x1.Peers.length = x469.Peers.length := hl481
 have h509 := OW.le h484 hle475
 have h511 := OW.le h487 hle475
 have ap512 : ¬ S480 n0 := fun hj => (OD.after h479 hd478 hj).elim (fun h => by have := lt363; omega) (fun hs => by
      rcases hs with h | h | h | h | h
      · rw [fo347] at h; cases h
      · omega
      · exact ap354 h
      · exact ap356 h
      · exact ap359 h)
 have ap513 : ¬ S480 n368 := fun hj => (OD.after h479 hd478 hj).elim (fun h => by have := lt400; omega) (fun hs => by
      rcases hs with h | h | h | h | h
      · rw [fo399] at h; cases h
      · omega
      · exact (Ap.alloc (OD.hb h376)) h
      · exact (Ap.alloc (OW.hb h377)) h
      · exact (Ap.alloc (OW.hb h378)) h)
 have ap514 : idOf (.slice a482 x469.Net.length cap483) ≠ some n0 := fun hj => (OW.after h484 hd478 hj).elim (fun h => by have := lt363; omega) (fun hs => by
      rcases hs with h | h | h | h | h
      · rw [fo347] at h; cases h
      · omega
      · exact ap354 h
      · exact ap356 h
      · exact ap359 h)
 have ap515 : idOf (.slice a482 x469.Net.length cap483) ≠ some n368 := fun hj => (OW.after h484 hd478 hj).elim (fun h => by have := lt400; omega) (fun hs => by
      rcases hs with h | h | h | h | h
      · rw [fo399] at h; cases h
      · omega
      · exact (Ap.alloc (OD.hb h376)) h
      · exact (Ap.alloc (OW.hb h377)) h
      · exact (Ap.alloc (OW.hb h378)) h)
 have ap516 : idOf (.slice a485 x469.Chosen.length cap486) ≠ some n0 := fun hj => (OW.after h487 hd478 hj).elim (fun h => by have := lt363; omega) (fun hs => by
      rcases hs with h | h | h | h | h
      · rw [fo347] at h; cases h
      · omega
      · exact ap354 h
      · exact ap356 h
      · exact ap359 h)
 have ap517 : idOf (.slice a485 x469.Chosen.length cap486) ≠ some n368 := fun hj => (OW.after h487 hd478 hj).elim (fun h => by have := lt400; omega) (fun hs => by
      rcases hs with h | h | h | h | h
      · rw [fo399] at h; cases h
      · omega
      · exact (Ap.alloc (OD.hb h376)) h
      · exact (Ap.alloc (OW.hb h377)) h
      · exact (Ap.alloc (OW.hb h378)) h)
 have hlon470 := hS498.lo
 have lt518 := hS498.lt ho499
 have lt519 := hS498.lt ho505
 have lt520 := hS498.lt ho500
 refine WL.nil ?_
 refine Ex.thn_norm ?_
 with_reducible refine W.seq ?_
 with_reducible refine W.region ?_
 refine WL.assign .nil rfl rfl rfl rfl ?_
 refine WL.nil ?_
 refine Ex.thn_norm ?_
 with_reducible refine W.ret ?_
 with_reducible refine Ex.thn_ret ?_
 with_reducible refine Ex.blk_ret ?_
 with_reducible refine Ex.thn_ret ?_
 obtain rfl := Option.some.inj hr
 exact ⟨.inr rfl, _, (.cons (.tmp rfl) .nil), ⟨F489, S480, a482, cap483, a485, cap486, (hE504.up (by omega)), hS498, ho505, rfl, h506, hl507, h509, h511, ap492, ap493, ap494, ap495, ap496, ap497⟩⟩
 }
 {
 replace hr := ite_neg hr hc468
 with_reducible refine W.skip ?_
 refine Ex.thn_norm ?_
 with_reducible refine W.seq ?_
 refine W.regionI (fun H => True) [0, 1, 2, 3, 4, 5, 6, 7, 8, 9, 10, 11, 12, 13] [(false, true, false), (false, false, false), (false, false, false), (false, false, false), (false, false, false), (false, false, false), (false, false, false), (false, false, false), (false, false, false), (false, false, false), (true, false, false), (false, false, false), (false, false, false), (true, false, true)] false rfl (by kernel_rfl) (by kernel_rfl) (by (conv => lhs; simp only [List.map_cons, List.map_nil, List.getD_cons_zero, List.getD_cons_succ]) <;> rfl) ?_
 refine WLI.late (v := .pointer (some ⟨p0, 0, none⟩)) (fun h => by cases h) rfl rfl (fun H2 hI2 => .move (.inl rfl) rfl) ?_
 refine WLI.op (fun h => by cases h) ?_
 refine WL.move .r rfl rfl rfl rfl ?_
 with_reducible refine WL.nil ⟨rfl, ?_⟩
 refine WLI.op (fun h => by cases h) ?_
 refine WL.nilCheck .r rfl rfl rfl rfl ?_
 with_reducible refine WL.nil ⟨rfl, ?_⟩
 refine WLI.op (fun h => by cases h) ?_
 refine WL.fieldAddr .r rfl rfl rfl Try.underlying30 rfl info27 rfl rfl ?_
 with_reducible refine WL.nil ⟨rfl, ?_⟩
 refine WLI.op (fun h => by cases h) ?_
 refine WL.load1 .r rfl rfl rfl Try.underlying27 rfl rfl ho411 rfl ?_
 with_reducible refine WL.nil ⟨rfl, ?_⟩
 refine WLI.op (fun h => by cases h) ?_
 refine WL.fieldAddr .r rfl rfl rfl Try.underlying24 rfl info3 rfl rfl ?_
 with_reducible refine WL.nil ⟨rfl, ?_⟩
 refine WLI.op (fun h => by cases h) ?_
 refine WL.load1 .r rfl rfl rfl Try.underlying3 rfl rfl ho410 rfl ?_
 with_reducible refine WL.nil ⟨rfl, ?_⟩
 refine WLI.op (fun h => by cases h) ?_
 refine WL.fieldAddr .r rfl rfl rfl Try.underlying24 rfl info3 rfl rfl ?_
 with_reducible refine WL.nil ⟨rfl, ?_⟩
 refine WLI.op (fun h => by cases h) ?_
 refine WL.load1 .r rfl rfl rfl Try.underlying3 rfl rfl ho410 rfl ?_
 with_reducible refine WL.nil ⟨rfl, ?_⟩
 refine WLI.op (fun h => by cases h) ?_
 obtain ⟨hc522, hr⟩ := chk_some hr
 refine WL.addI .r rfl rfl rfl rfl rfl hc522.1 hc522.2 ?_
 with_reducible refine WL.nil ⟨rfl, ?_⟩
 refine WLI.op (fun h => by cases h) ?_
 obtain ⟨xs523, hxs523, hr⟩ := bnd_some hr
 refine GL.callIn (args := [.slice a7 x1.Net.length cap8, .int .i64 x18.N, .int .i64 (x18.N + 1)]) .w lo rfl rfl rfl rfl rfl rfl Try.func56 rfl rfl (Nat.le_refl _) hS407.lo ((f_slices_Delete_implMsg_k g hS407 h413 (by omega) hxs523).mono fun _ n526 H527 hp => ?_)
 obtain ⟨a524, cap525, hn532, hS528, rfl, hO529, hk530, hid531⟩ := hp
 subst hn532
 have ho533 := (hk530 _ ap356).trans ho410
 have ho534 := (hk530 _ ap357).trans ho411
 have ho535 := (hk530 _ (Ap.alloc (OW.hb h377))).trans ho408
 have h536 := OD.keep h412 (Nat.le_refl _) (fun i hi => hk530 i (fun hj => ap358 _ hj hi))
 have h537 := OW.keep h414 (Nat.le_refl _) (fun i hi => hk530 i (fun hj => (Ap.sym ap362) _ hj hi))
 with_reducible refine WL.nil ⟨rfl, ?_⟩
 refine WLI.op (fun h => by cases h) ?_
 refine WL.nilCheck .r rfl rfl rfl rfl ?_
 with_reducible refine WL.nil ⟨rfl, ?_⟩
 refine WLI.op (fun h => by cases h) ?_
 refine WL.fieldAddr .r rfl rfl rfl Try.underlying30 rfl info27 rfl rfl ?_
 with_reducible refine WL.nil ⟨rfl, ?_⟩
 refine WLI.op (fun _ => trivial) ?_
 refine GL.store hS528 .w (vc := [.slice a524 xs523.length cap525]) (c' := [.slice a2 x1.Peers.length cap3, .slice a524 xs523.length cap525, .slice a11 x1.Chosen.length cap12, .bool x1.Conflict]) rfl rfl rfl info27 rfl rfl rfl rfl ho534 fo353 (Nat.le_of_ble_eq_true rfl) lo17 (one1 rfl) rfl (fun H539 hS540 ho541 hk542 => ?_)
 have ho543 := (hk542 _ (by omega)).trans ho533
 have ho544 := (hk542 _ (by omega)).trans ho535
 have h545 := OD.keep h536 (Nat.le_refl _) (fun i hi => hk542 i (fun hj => ap355 (hj ▸ hi)))
 have h546 := OW.keep h537 (Nat.le_refl _) (fun i hi => hk542 i (fun hj => ap360 (hj ▸ hi)))
 have h547 := OW.keep hO529 (Nat.le_refl _) (fun i hi => hk542 i (fun hj => (Ap.sub0 hid531 ap357) (hj ▸ hi)))
 with_reducible refine WL.nil ⟨rfl, ?_⟩
 refine WLI.nil (fun h => by cases h) ?_
 refine Ex.thn_norm ?_
 with_reducible refine W.seq ?_
 with_reducible refine W.seq ?_
 with_reducible refine W.region ?_
 refine WL.fieldAddr .nil rfl rfl rfl Try.underlying24 rfl info3 rfl rfl ?_
 refine WL.load1 .nil rfl rfl rfl Try.underlying3 rfl rfl ho543 rfl ?_
 refine WL.bin .nil rfl rfl rfl rfl rfl rfl ?_
 refine WL.nil ?_
 refine Ex.thn_norm ?_
 refine W.condD rfl (fun hc548 => ?_) (fun hc548 => ?_)
 {
 replace hr := ite_pos hr hc548
 with_reducible refine W.region ?_
 refine WL.move .nil rfl rfl rfl rfl ?_
 refine WL.loadN .nil (l' := [.int .i64 x382.Kind, .int .i64 x382.From, .int .i64 x382.To, .int .i64 x382.Term, .int .i64 x382.A, .int .i64 x382.B, .int .i64 x382.C, .bool x382.Ok, .slice a392 x382.Log.length cap393]) rfl rfl rfl Try.underlying85 rfl info85 rfl ho544 rfl rfl ?_
 obtain ⟨x549, hx549, hr⟩ := bnd_some hr
 refine GL.callIO g .nil (fun i => (F341 i).isSome = true ∨ i = p0 ∨ S349 i ∨ idOf (.slice a524 xs523.length cap525) = some i ∨ idOf (.slice a11 x1.Chosen.length cap12) = some i) rfl rfl rfl rfl rfl rfl Try.func57 rfl rfl (Nat.le_refl _) hS540.lo (f_impl_Cluster_arrive_k (x1 := ({ Peers := x1.Peers, Net := xs523, Chosen := x1.Chosen, Conflict := x1.Conflict } : GCluster)) (x18 := ({ Kind := x382.Kind, From := x382.From, To := x382.To, Term := x382.Term, A := x382.A, B := x382.B, C := x382.C, Ok := x382.Ok, Log := x382.Log } : GMsg)) g (St.vis hS540 (fun i hi => .inl hi)) (vis_get ho541 (.inr (.inl rfl))) fo353 lo17 (OD.vis h545 (fun i hi => (.inr (.inr (.inl hi))))) (OW.vis h547 (fun i hi => (.inr (.inr (.inr (.inl hi)))))) (OW.vis h546 (fun i hi => (.inr (.inr (.inr (.inr (hi))))))) h394 ap355 (Ap.sub0 hid531 ap357) (Ap.sub hid531 ap358) ap360 ap361 (Ap.sym (Ap.sub hid531 (Ap.sym ap362))) hx549) (fun v n550 H551 H552 hn553 hp554 hle555 hnew556 hk557 hd558 => ?_)
 obtain ⟨F569, S560, a562, cap563, a565, cap566, hX570, hS568, ho571, rfl, h559, hl561, h564, h567, ap572, ap573, ap574, ap575, ap576, ap577⟩ := hp554
 have hS578 : St lo n550 H551 _ := ⟨hS568.lo, fun i hi => (hnew556 i (by omega)).trans (hS568.hb i hi), hS568.fh.trans hle555⟩
 have ho579 := (hk557 _ (by have := lt363; omega) (fun hs => by
      rcases hs with h | h | h | h | h
      · rw [fo347] at h; cases h
      · omega
      · exact ap354 h
      · exact (Ap.sub0 hid531 ap356) h
      · exact ap359 h)).trans ho543
 have ho580 := (hk557 _ (by have := lt400; omega) (fun hs => by
      rcases hs with h | h | h | h | h
      · rw [fo399] at h; cases h
      · omega
      · exact (Ap.alloc (OD.hb h376)) h
      · exact (Ap.sub0 hid531 (Ap.alloc (OW.hb h377))) h
      · exact (Ap.alloc (OW.hb h378)) h)).trans ho544
 have fo581 := (hX570.eq _ (by have := lt363; omega)).trans fo347
 have fo582 := (hX570.eq _ (by have := lt364; omega)).trans fo353
 have fo583 := (hX570.eq _ (by have := lt400; omega)).trans fo399
 have hE584 := (hE343.up (n' := (n368 + 1)) (by omega)).trans hX570
 have ho585 := hle555 _ _ ho571
 have h586 := OD.le h559 hle555
 have hl587 : x1.Peers.length = x549.Peers.length := hl561
 have h589 := OW.le h564 hle555
 have h591 := OW.le h567 hle555
 have ap592 : ¬ S560 n0 := fun hj => (OD.after h559 hd558 hj).elim (fun h => by have := lt363; omega) (fun hs => by
      rcases hs with h | h | h | h | h
      · rw [fo347] at h; cases h
      · omega
      · exact ap354 h
      · exact (Ap.sub0 hid531 ap356) h
      · exact ap359 h)
 have ap593 : ¬ S560 n368 := fun hj => (OD.after h559 hd558 hj).elim (fun h => by have := lt400; omega) (fun hs => by
      rcases hs with h | h | h | h | h
      · rw [fo399] at h; cases h
      · omega
      · exact (Ap.alloc (OD.hb h376)) h
      · exact (Ap.sub0 hid531 (Ap.alloc (OW.hb h377))) h
      · exact (Ap.alloc (OW.hb h378)) h)
 have ap594 : idOf (.slice a562 x549.Net.length cap563) ≠ some n0 := fun hj => (OW.after h564 hd558 hj).elim (fun h => by have := lt363; omega) (fun hs => by
      rcases hs with h | h | h | h | h
      · rw [fo347] at h; cases h
      · omega
      · exact ap354 h
      · exact (Ap.sub0 hid531 ap356) h
      · exact ap359 h)
 have ap595 : idOf (.slice a562 x549.Net.length cap563) ≠ some n368 := fun hj => (OW.after h564 hd558 hj).elim (fun h => by have := lt400; omega) (fun hs => by
      rcases hs with h | h | h | h | h
      · rw [fo399] at h; cases h
      · omega
      · exact (Ap.alloc (OD.hb h376)) h
      · exact (Ap.sub0 hid531 (Ap.alloc (OW.hb h377))) h
      · exact (Ap.alloc (OW.hb h378)) h)
 have ap596 : idOf (.slice a565 x549.Chosen.length cap566) ≠ some n0 := fun hj => (OW.after h567 hd558 hj).elim (fun h => by have := lt363; omega) (fun hs => by
      rcases hs with h | h | h | h | h
      · rw [fo347] at h; cases h
      · omega
      · exact ap354 h
      · exact (Ap.sub0 hid531 ap356) h
      · exact ap359 h)
 have ap597 : idOf (.slice a565 x549.Chosen.length cap566) ≠ some n368 := fun hj => (OW.after h567 hd558 hj).elim (fun h => by have := lt400; omega) (fun hs => by
      rcases hs with h | h | h | h | h
      · rw [fo399] at h; cases h
      · omega
      · exact (Ap.alloc (OD.hb h376)) h
      · exact (Ap.sub0 hid531 (Ap.alloc (OW.hb h377))) h
      · exact (Ap.alloc (OW.hb h378)) h)
 have hlon550 := hS578.lo
 have lt598 := hS578.lt ho579
 have lt599 := hS578.lt ho585
 have lt600 := hS578.lt ho580
 refine WL.nil ?_
 refine Ex.thn_norm ?_
 with_reducible refine W.seq ?_
 with_reducible refine W.region ?_
 refine WL.assign .nil rfl rfl rfl rfl ?_
 refine WL.nil ?_
 refine Ex.thn_norm ?_
 with_reducible refine W.ret ?_
 with_reducible refine Ex.blk_ret ?_
 with_reducible refine Ex.thn_ret ?_
 obtain rfl := Option.some.inj hr
 exact ⟨.inr rfl, _, (.cons (.tmp rfl) .nil), ⟨F569, S560, a562, cap563, a565, cap566, (hE584.up (by omega)), hS578, ho585, rfl, h586, hl587, h589, h591, ap572, ap573, ap574, ap575, ap576, ap577⟩⟩
 }
 {
 replace hr := ite_neg hr hc548
 with_reducible refine W.skip ?_
 refine Ex.thn_norm ?_
 with_reducible refine W.seq ?_
 with_reducible refine W.region ?_
 refine WL.assign .nil rfl rfl rfl rfl ?_
 refine WL.nil ?_
 refine Ex.thn_norm ?_
 with_reducible refine W.ret ?_
 with_reducible refine Ex.blk_ret ?_
 with_reducible refine Ex.thn_ret ?_
 obtain rfl := Option.some.inj hr
 exact ⟨.inr rfl, _, (.cons (.tmp rfl) .nil), ⟨F341, S349, a524, cap525, a11, cap12, (hE343.up (by omega)), hS540, ho541, rfl, h545, rfl, h547, h546, ap355, (Ap.sub0 hid531 ap357), ap360, (Ap.sub hid531 ap358), ap361, (Ap.sym (Ap.sub hid531 (Ap.sym ap362)))⟩⟩
 }
 }
 }
 }
 {
 replace hr := iteB_neg hr hc365
 with_reducible refine W.seq ?_
 with_reducible refine W.seq ?_
 with_reducible refine W.region ?_
 refine WL.bin .nil rfl rfl rfl rfl rfl rfl ?_
 refine WL.assign .nil rfl rfl rfl rfl ?_
 refine WL.nil ?_
 refine Ex.thn_norm ?_
 refine W.cut (fun fr n H => ∃ (x609 : Bool) (S614 : Nat → Prop) (F : Heap), fr = [(0, .pointer (some ⟨p0, 0, none⟩)), (3, .pointer (some ⟨n0, 0, none⟩)), (56, .bool x609)] ∧ St lo n H F ∧ Ext n0 F0 n F ∧ H n0 = some (.row 1 [.int .i64 x18.Kind, .int .i64 x18.N, .slice a19 x18.Data.length cap20]) ∧ F n0 = none ∧ H p0 = some (.row ez0 [.slice a2 x1.Peers.length cap3, .slice a7 x1.Net.length cap8, .slice a11 x1.Chosen.length cap12, .bool x1.Conflict]) ∧ F p0 = none ∧ SR F (.slice a19 x18.Data.length cap20) x18.Data ∧ OD lo n H F S614 [] (.slice a2 x1.Peers.length cap3) x1.Peers ∧ OW lo n H F (.slice a7 x1.Net.length cap8) x1.Net ∧ OW lo n H F (.slice a11 x1.Chosen.length cap12) x1.Chosen ∧ ¬ S614 n0 ∧ ¬ S614 p0 ∧ idOf (.slice a7 x1.Net.length cap8) ≠ some n0 ∧ idOf (.slice a7 x1.Net.length cap8) ≠ some p0 ∧ (∀ b, idOf (.slice a7 x1.Net.length cap8) = some b → ¬ S614 b) ∧ idOf (.slice a11 x1.Chosen.length cap12) ≠ some n0 ∧ idOf (.slice a11 x1.Chosen.length cap12) ≠ some p0 ∧ (∀ b, idOf (.slice a11 x1.Chosen.length cap12) = some b → ¬ S614 b) ∧ (∀ b, idOf (.slice a11 x1.Chosen.length cap12) = some b → idOf (.slice a7 x1.Net.length cap8) ≠ some b) ∧ f_impl_Cluster_event_J1 x1 x18 x609 = some res) ?_ ?_
 {
 refine W.condD rfl (fun hc1093 => ?_) (fun hc1093 => ?_)
 {
 replace hr := ite_pos hr hc1093
 with_reducible refine W.skip ?_
 refine Ex.thn_norm ?_
 exact ⟨[(0, .pointer (some ⟨p0, 0, none⟩)), (3, .pointer (some ⟨n0, 0, none⟩)), (56, .bool (decide (x18.Kind = 1)))], (Fr.le_cons rfl (Fr.le_cons rfl (Fr.le_cons rfl Fr.le_nil))), (decide (x18.Kind = 1)), S349, F341, rfl, hS342, hE343, ho346, fo347, ho352, fo353, h345, h348, h350, h351, ap354, ap355, ap356, ap357, ap358, ap359, ap360, ap361, ap362, hr⟩
 }
 {
 replace hr := ite_neg hr hc1093
 with_reducible refine W.seq ?_
 with_reducible refine W.region ?_
 refine WL.bin .nil rfl rfl rfl rfl rfl rfl ?_
 refine WL.assign .nil rfl rfl rfl rfl ?_
 refine WL.nil ?_
 refine Ex.thn_norm ?_
 refine W.condD rfl (fun hc1094 => ?_) (fun hc1094 => ?_)
 {
 replace hr := ite_pos hr hc1094
 with_reducible refine W.skip ?_
 refine Ex.thn_norm ?_
 exact ⟨[(0, .pointer (some ⟨p0, 0, none⟩)), (3, .pointer (some ⟨n0, 0, none⟩)), (56, .bool (decide (x18.Kind = 5)))], (Fr.le_cons rfl (Fr.le_cons rfl (Fr.le_cons rfl Fr.le_nil))), (decide (x18.Kind = 5)), S349, F341, rfl, hS342, hE343, ho346, fo347, ho352, fo353, h345, h348, h350, h351, ap354, ap355, ap356, ap357, ap358, ap359, ap360, ap361, ap362, hr⟩
 }
 {
 replace hr := ite_neg hr hc1094
 with_reducible refine W.seq ?_
 with_reducible refine W.region ?_
 refine WL.bin .nil rfl rfl rfl rfl rfl rfl ?_
 refine WL.assign .nil rfl rfl rfl rfl ?_
 refine WL.nil ?_
 refine Ex.thn_norm ?_
 refine W.condD rfl (fun hc1095 => ?_) (fun hc1095 => ?_)
 {
 replace hr := ite_pos hr hc1095
 with_reducible refine W.skip ?_
 refine Ex.thn_norm ?_
 exact ⟨[(0, .pointer (some ⟨p0, 0, none⟩)), (3, .pointer (some ⟨n0, 0, none⟩)), (56, .bool (decide (x18.Kind = 6)))], (Fr.le_cons rfl (Fr.le_cons rfl (Fr.le_cons rfl Fr.le_nil))), (decide (x18.Kind = 6)), S349, F341, rfl, hS342, hE343, ho346, fo347, ho352, fo353, h345, h348, h350, h351, ap354, ap355, ap356, ap357, ap358, ap359, ap360, ap361, ap362, hr⟩
 }
 {
 replace hr := ite_neg hr hc1095
 with_reducible refine W.region ?_
 refine WL.bin .nil rfl rfl rfl rfl rfl rfl ?_
 refine WL.assign .nil rfl rfl rfl rfl ?_
 refine WL.nil ?_
 refine Ex.thn_norm ?_
 exact ⟨[(0, .pointer (some ⟨p0, 0, none⟩)), (3, .pointer (some ⟨n0, 0, none⟩)), (56, .bool (decide (x18.Kind = 7)))], (Fr.le_cons rfl (Fr.le_cons rfl (Fr.le_cons rfl Fr.le_nil))), (decide (x18.Kind = 7)), S349, F341, rfl, hS342, hE343, ho346, fo347, ho352, fo353, h345, h348, h350, h351, ap354, ap355, ap356, ap357, ap358, ap359, ap360, ap361, ap362, hr⟩
 }
 }
 }
 }
 {
 intro _ n604 H605 hI
 obtain ⟨x609, S614, F606, rfl, hS607, hE608, ho611, fo612, ho617, fo618, h610, h613, h615, h616, ap619, ap620, ap621, ap622, ap623, ap624, ap625, ap626, ap627, hr⟩ := hI
 have lt628 := hS607.lt ho611
 have lt629 := hS607.lt ho617
 have hlen604 := hE608.le
 have hlon604 := hS607.lo
 unfold f_impl_Cluster_event_J1 at hr
 refine W.cond rfl (fun hc630 => ?_) (fun hc630 => ?_)
 {
 replace hr := iteB_pos hr hc630
 with_reducible refine W.skip ?_
 with_reducible refine Ex.blk_norm ?_
 refine Ex.thn_norm ?_
 with_reducible refine W.seq ?_
 with_reducible refine W.seq ?_
 refine W.regionD [0, 1, 2, 3, 4, 5, 6, 7, 8, 9] [false, false, false, false, false, false, false, false, false, false] rfl rfl (by kernel_rfl) (by kernel_rfl) (by (conv => lhs; simp only [List.map_cons, List.map_nil, List.getD_cons_zero, List.getD_cons_succ]) <;> rfl) ?_
 refine WL.fieldAddr .r rfl rfl rfl Try.underlying24 rfl info3 rfl rfl ?_
 refine WL.load1 .r rfl rfl rfl Try.underlying3 rfl rfl ho611 rfl ?_
 refine WL.move .r rfl rfl rfl rfl ?_
 refine WL.nilCheck .r rfl rfl rfl rfl ?_
 refine WL.fieldAddr .r rfl rfl rfl Try.underlying30 rfl info26 rfl rfl ?_
 refine WL.load1 .r rfl rfl rfl Try.underlying26 rfl rfl ho617 rfl ?_
 refine WL.len .r rfl rfl rfl Try.underlying26 rfl ?_
 obtain ⟨hc631, hr⟩ := chk_some hr
 refine WL.subI .r rfl rfl rfl rfl rfl hc631.1 hc631.2 ?_
 obtain ⟨x632, hx632, hr⟩ := bnd_some hr
 refine GL.callP g.good .r rfl rfl rfl rfl rfl rfl Try.func30 rfl rfl (Nat.le_refl _) (f_impl_within_k  g hS607 hx632) (fun v n633 H634 hn635 hk636 hp637 => ?_)
 obtain ⟨hS638, rfl⟩ := hp637
 have ho639 := (hk636 _ (by have := lt628; omega)).trans ho611
 have ho640 := (hk636 _ (by have := lt629; omega)).trans ho617
 have h641 := OD.keep (n' := n633) h613 (by omega) (fun i hi => hk636 i (OD.id_lt h613 hi).2)
 have h642 := OW.keep (n' := n633) h615 (by omega) (fun i hi => hk636 i (OW.id_lt h615 hi).2)
 have h643 := OW.keep (n' := n633) h616 (by omega) (fun i hi => hk636 i (OW.id_lt h616 hi).2)
 have hS644 : St lo n633 H634 F606 := ⟨by have := hS607.lo; omega, hS638.hb, hS638.fh⟩
 have hlon633 := hS644.lo
 refine WL.not .r rfl rfl rfl rfl ?_
 refine WL.nil ?_
 refine Ex.thn_norm ?_
 refine W.cond rfl (fun hc646 => ?_) (fun hc646 => ?_)
 {
 replace hr := iteB_pos hr hc646
 with_reducible refine W.seq ?_
 with_reducible refine W.region ?_
 refine WL.assign .nil rfl rfl rfl rfl ?_
 refine WL.nil ?_
 refine Ex.thn_norm ?_
 with_reducible refine W.ret ?_
 with_reducible refine Ex.thn_ret ?_
 obtain rfl := Option.some.inj hr
 exact ⟨.inr rfl, _, (.cons (.tmp rfl) .nil), ⟨F606, S614, a7, cap8, a11, cap12, (hE608.up (by omega)), hS644, ho640, rfl, h641, rfl, h642, h643, ap620, ap622, ap625, ap623, ap626, ap627⟩⟩
 }
 {
 replace hr := iteB_neg hr hc646
 with_reducible refine W.skip ?_
 refine Ex.thn_norm ?_
 with_reducible refine W.seq ?_
 refine W.regionD [0, 1, 2, 3, 4, 5, 6, 7] [false, false, false, false, false, false, false, false] rfl rfl (by kernel_rfl) (by kernel_rfl) (by (conv => lhs; simp only [List.map_cons, List.map_nil, List.getD_cons_zero, List.getD_cons_succ]) <;> rfl) ?_
 refine WL.move .r rfl rfl rfl rfl ?_
 refine WL.nilCheck .r rfl rfl rfl rfl ?_
 refine WL.fieldAddr .r rfl rfl rfl Try.underlying30 rfl info26 rfl rfl ?_
 refine WL.load1 .r rfl rfl rfl Try.underlying26 rfl rfl ho640 rfl ?_
 refine WL.fieldAddr .r rfl rfl rfl Try.underlying24 rfl info3 rfl rfl ?_
 refine WL.load1 .r rfl rfl rfl Try.underlying3 rfl rfl ho639 rfl ?_
 obtain ⟨x647, hx647, hr⟩ := bnd_some hr
 refine GL.indexD .r rfl rfl rfl Try.underlying26 info42 rfl rfl h641 rfl hx647 (fun b648 el649 hp650 => ?_)
 refine WL.assign .r rfl rfl rfl rfl ?_
 refine WL.nil ?_
 refine Ex.thn_norm ?_
 with_reducible refine W.seq ?_
 with_reducible refine W.seq ?_
 refine W.regionD [0, 1, 2, 3, 4, 5, 6, 7] [false, false, false, false, false, false, false, false] rfl rfl (by kernel_rfl) (by kernel_rfl) (by (conv => lhs; simp only [List.map_cons, List.map_nil, List.getD_cons_zero, List.getD_cons_succ]) <;> rfl) ?_
 refine WL.move .r rfl rfl rfl rfl ?_
 refine WL.nilCheck .r rfl rfl rfl rfl ?_
 refine WL.fieldAddr .r rfl rfl rfl Try.underlying42 rfl info4 rfl rfl ?_
 obtain ⟨c651, ecs652, hrow653, hwin654, hb655⟩ := OD.get h641 hp650 hx647
 obtain ⟨a656, cap657, a658, cap659, a660, cap661, a662, cap663, rfl⟩ := GPeer.ofB hb655
 refine WL.load1 .r rfl rfl rfl Try.underlying4 rfl rfl hrow653 ((win_get0 hwin654 (show (0 : Nat) < 9 by decide)).trans rfl) ?_
 refine WL.fieldAddr .r rfl rfl rfl Try.underlying24 rfl info3 rfl rfl ?_
 refine WL.load1 .r rfl rfl rfl Try.underlying3 rfl rfl ho639 rfl ?_
 refine WL.bin .r rfl rfl rfl rfl rfl rfl ?_
 refine WL.eqBool .r rfl rfl rfl (by decide) Try.underlying4 rfl rfl ?_
 refine WL.nil ?_
 refine Ex.thn_norm ?_
 refine W.cond rfl (fun hc665 => ?_) (fun hc665 => ?_)
 {
 replace hr := iteB_pos hr hc665
 with_reducible refine W.seq ?_
 with_reducible refine W.region ?_
 refine WL.assign .nil rfl rfl rfl rfl ?_
 refine WL.nil ?_
 refine Ex.thn_norm ?_
 with_reducible refine W.ret ?_
 with_reducible refine Ex.thn_ret ?_
 obtain rfl := Option.some.inj hr
 exact ⟨.inr rfl, _, (.cons (.tmp rfl) .nil), ⟨F606, S614, a7, cap8, a11, cap12, (hE608.up (by omega)), hS644, ho640, rfl, h641, rfl, h642, h643, ap620, ap622, ap625, ap623, ap626, ap627⟩⟩
 }
 {
 replace hr := iteB_neg hr hc665
 with_reducible refine W.skip ?_
 refine Ex.thn_norm ?_
 with_reducible refine W.seq ?_
 with_reducible refine W.seq ?_
 with_reducible refine W.region ?_
 refine WL.fieldAddr .nil rfl rfl rfl Try.underlying24 rfl info3 rfl rfl ?_
 refine WL.load1 .nil rfl rfl rfl Try.underlying3 rfl rfl ho639 rfl ?_
 refine WL.nil ?_
 refine Ex.thn_norm ?_
 with_reducible refine W.block ?_
 with_reducible refine W.seq ?_
 with_reducible refine W.region ?_
 refine WL.bin .nil rfl rfl rfl rfl rfl rfl ?_
 refine WL.assign .nil rfl rfl rfl rfl ?_
 refine WL.nil ?_
 refine Ex.thn_norm ?_
 refine W.condD rfl (fun hc666 => ?_) (fun hc666 => ?_)
 {
 replace hr := ite_pos hr hc666
 with_reducible refine W.region ?_
 refine WL.move .nil rfl rfl rfl rfl ?_
 refine WL.fieldAddr .nil rfl rfl rfl Try.underlying24 rfl info3 rfl rfl ?_
 refine WL.load1 .nil rfl rfl rfl Try.underlying3 rfl rfl ho639 rfl ?_
 obtain ⟨x667, hx667, hr⟩ := bnd_some hr
 refine GL.callIO g .nil (fun i => (F606 i).isSome = true ∨ i = p0 ∨ S614 i ∨ idOf (.slice a7 x1.Net.length cap8) = some i ∨ idOf (.slice a11 x1.Chosen.length cap12) = some i) rfl rfl rfl rfl rfl rfl Try.func58 rfl rfl (Nat.le_refl _) hS644.lo (f_impl_Cluster_tick_k (x1 := ({ Peers := x1.Peers, Net := x1.Net, Chosen := x1.Chosen, Conflict := x1.Conflict } : GCluster)) g (St.vis hS644 (fun i hi => .inl hi)) (vis_get ho640 (.inr (.inl rfl))) fo618 lo17 (OD.vis h641 (fun i hi => (.inr (.inr (.inl hi))))) (OW.vis h642 (fun i hi => (.inr (.inr (.inr (.inl hi)))))) (OW.vis h643 (fun i hi => (.inr (.inr (.inr (.inr (hi))))))) ap620 ap622 ap623 ap625 ap626 ap627 hx667) (fun v n668 H669 H670 hn671 hp672 hle673 hnew674 hk675 hd676 => ?_)
 obtain ⟨F687, S678, a680, cap681, a683, cap684, hX688, hS686, ho689, rfl, h677, hl679, h682, h685, ap690, ap691, ap692, ap693, ap694, ap695⟩ := hp672
 have hS696 : St lo n668 H669 _ := ⟨hS686.lo, fun i hi => (hnew674 i (by omega)).trans (hS686.hb i hi), hS686.fh.trans hle673⟩
 have ho697 := (hk675 _ (by have := lt628; omega) (fun hs => by
      rcases hs with h | h | h | h | h
      · rw [fo612] at h; cases h
      · omega
      · exact ap619 h
      · exact ap621 h
      · exact ap624 h)).trans ho639
 have fo698 := (hX688.eq _ (by have := lt628; omega)).trans fo612
 have fo699 := (hX688.eq _ (by have := lt629; omega)).trans fo618
 have hE700 := (hE608.up (n' := n633) (by omega)).trans hX688
 have ho701 := hle673 _ _ ho689
 have h702 := OD.le h677 hle673
 have hl703 : x1.Peers.length = x667.Peers.length := hl679
 have h705 := OW.le h682 hle673
 have h707 := OW.le h685 hle673
 have ap708 : ¬ S678 n0 := fun hj => (OD.after h677 hd676 hj).elim (fun h => by have := lt628; omega) (fun hs => by
      rcases hs with h | h | h | h | h
      · rw [fo612] at h; cases h
      · omega
      · exact ap619 h
      · exact ap621 h
      · exact ap624 h)
 have ap709 : idOf (.slice a680 x667.Net.length cap681) ≠ some n0 := fun hj => (OW.after h682 hd676 hj).elim (fun h => by have := lt628; omega) (fun hs => by
      rcases hs with h | h | h | h | h
      · rw [fo612] at h; cases h
      · omega
      · exact ap619 h
      · exact ap621 h
      · exact ap624 h)
 have ap710 : idOf (.slice a683 x667.Chosen.length cap684) ≠ some n0 := fun hj => (OW.after h685 hd676 hj).elim (fun h => by have := lt628; omega) (fun hs => by
      rcases hs with h | h | h | h | h
      · rw [fo612] at h; cases h
      · omega
      · exact ap619 h
      · exact ap621 h
      · exact ap624 h)
 have hlon668 := hS696.lo
 have lt711 := hS696.lt ho697
 have lt712 := hS696.lt ho701
 refine WL.nil ?_
 with_reducible refine Ex.blk_norm ?_
 refine Ex.thn_norm ?_
 with_reducible refine W.seq ?_
 with_reducible refine W.region ?_
 refine WL.assign .nil rfl rfl rfl rfl ?_
 refine WL.nil ?_
 refine Ex.thn_norm ?_
 with_reducible refine W.ret ?_
 obtain rfl := Option.some.inj hr
 exact ⟨.inr rfl, _, (.cons (.tmp rfl) .nil), ⟨F687, S678, a680, cap681, a683, cap684, (hE700.up (by omega)), hS696, ho701, rfl, h702, hl703, h705, h707, ap690, ap691, ap692, ap693, ap694, ap695⟩⟩
 }
 {
 replace hr := ite_neg hr hc666
 with_reducible refine W.seq ?_
 with_reducible refine W.region ?_
 refine WL.bin .nil rfl rfl rfl rfl rfl rfl ?_
 refine WL.assign .nil rfl rfl rfl rfl ?_
 refine WL.nil ?_
 refine Ex.thn_norm ?_
 refine W.condD rfl (fun hc713 => ?_) (fun hc713 => ?_)
 {
 replace hr := ite_pos hr hc713
 refine W.regionD [0, 1, 2, 3, 4, 5, 6, 7, 8, 9, 10, 11, 12, 13, 14, 15] [false, false, false, false, false, false, false, false, false, false, false, false, false, false, false, true] rfl rfl (by kernel_rfl) (by kernel_rfl) (by (conv => lhs; simp only [List.map_cons, List.map_nil, List.getD_cons_zero, List.getD_cons_succ]) <;> rfl) ?_
 refine WL.move .r rfl rfl rfl rfl ?_
 refine WL.move .r rfl rfl rfl rfl ?_
 refine WL.nilCheck .r rfl rfl rfl rfl ?_
 refine WL.fieldAddr .r rfl rfl rfl Try.underlying42 rfl info3 rfl rfl ?_
 refine WL.load1 .r rfl rfl rfl Try.underlying3 rfl rfl hrow653 ((win_get (m := 1) hwin654 (show (1 : Nat) < 9 by decide)).trans rfl) ?_
 refine WL.move .r rfl rfl rfl rfl ?_
 refine WL.nilCheck .r rfl rfl rfl rfl ?_
 refine WL.fieldAddr .r rfl rfl rfl Try.underlying42 rfl info3 rfl rfl ?_
 refine WL.load1 .r rfl rfl rfl Try.underlying3 rfl rfl hrow653 ((win_get (m := 2) hwin654 (show (2 : Nat) < 9 by decide)).trans rfl) ?_
 refine WL.move .r rfl rfl rfl rfl ?_
 refine WL.nilCheck .r rfl rfl rfl rfl ?_
 refine WL.fieldAddr .r rfl rfl rfl Try.underlying42 rfl info28 rfl rfl ?_
 obtain ⟨S714, hs715, hs716, hs717, h718, h719⟩ := GPeer.open_Log h641 hp650 hx647 hrow653 hwin654 (List.forall_mem_nil _)
 refine WL.load1 .r rfl rfl rfl Try.underlying28 rfl rfl hrow653 ((win_get (m := 5) hwin654 (show (5 : Nat) < 9 by decide)).trans rfl) ?_
 refine WL.buildL .r (cells := [.bool false, .int .i64 x647.Term, .int .i64 x647.Vote, .int .i64 0, .int .i64 0, .slice a656 x647.Log.length cap657, .slice none 0 0, .slice none 0 0, .slice none 0 0]) rfl rfl rfl Try.underlying42 info42 rfl rfl rfl (by simp only [List.mapM_cons, List.mapM_nil, info4, info3, info3, info3, info3, info28, info40, info31, info31]; rfl) rfl (by first | rfl | ((conv => lhs; simp [splice, fillL, cells_int, cells_bool, cells_string, cells_str, cells_slice, cells_ptr, cells_map, cells_func, cells_nilFunc, cells_nilIface, cells_iface, cells_agg, cells_u8]) <;> rfl)) ?_
 refine WL.nilCheck .r rfl rfl rfl rfl ?_
 refine GL.store hS644 .w (vc := [.bool false, .int .i64 x647.Term, .int .i64 x647.Vote, .int .i64 0, .int .i64 0, .slice a656 x647.Log.length cap657, .slice none 0 0, .slice none 0 0, .slice none 0 0]) rfl rfl rfl info42 rfl rfl rfl rfl hrow653 (OD.fnone h719 (OD.bS h719 hp650)) (win_fit hwin654 (Nat.le_of_ble_eq_true rfl) rfl (Nat.le_of_ble_eq_true rfl)) (by have := (OD.id_lt h719 (OD.bS h719 hp650)).1; omega) (by repeat' (first | exact List.forall_mem_nil _ | refine List.forall_mem_cons.2 ⟨?_, ?_⟩ | rfl)) rfl (fun H721 hS722 ho723 hk724 => ?_)
 have ho725 := (hk724 n0 (fun hj => (Ap.sub0 hs715 ap619) (by rw [hj]; exact (OD.bS h719 hp650)))).trans ho639
 have ho726 := (hk724 p0 (fun hj => (Ap.sub0 hs715 ap620) (by rw [hj]; exact (OD.bS h719 hp650)))).trans ho640
 have h727 := OW.keep h642 (Nat.le_refl _) (fun i hi => hk724 i (fun hj => (Ap.sym (Ap.sub hs715 (Ap.sym ap623))) i hi (by rw [hj]; exact (OD.bS h719 hp650))))
 have h728 := OW.keep h643 (Nat.le_refl _) (fun i hi => hk724 i (fun hj => (Ap.sym (Ap.sub hs715 (Ap.sym ap626))) i hi (by rw [hj]; exact (OD.bS h719 hp650))))
 have h729 := OW.keep h718 (Nat.le_refl _) (fun i hi => hk724 i (fun hj => hs717 i hi (by rw [hj]; exact (OD.bS h719 hp650))))
 obtain ⟨S731, hs732, h730⟩ := GPeer.whole_Log h719 hp650 hx647 hrow653 hwin654 (w0 := false) (w1 := x647.Term) (w2 := x647.Vote) (w3 := 0) (w4 := 0) h718 (fun i hi => hs717 i hi) ho723 hk724
 have hl733 : x1.Peers.length = (setI x1.Peers x18.N ({ Up := false, Term := x647.Term, Vote := x647.Vote, Commit := 0, Role := 0, Log := x647.Log, Votes := [], Next := [], Match := [] } : GPeer)).length := (setI_length _ _ _).symm
 have hx734 : idx (setI x1.Peers x18.N ({ Up := false, Term := x647.Term, Vote := x647.Vote, Commit := 0, Role := 0, Log := x647.Log, Votes := [], Next := [], Match := [] } : GPeer)) x18.N = some ({ Up := false, Term := x647.Term, Vote := x647.Vote, Commit := 0, Role := 0, Log := x647.Log, Votes := [], Next := [], Match := [] } : GPeer) := idx_setI_same hx647
 refine WL.nil ?_
 with_reducible refine Ex.blk_norm ?_
 refine Ex.thn_norm ?_
 with_reducible refine W.seq ?_
 with_reducible refine W.region ?_
 refine WL.assign .nil rfl rfl rfl rfl ?_
 refine WL.nil ?_
 refine Ex.thn_norm ?_
 with_reducible refine W.ret ?_
 obtain rfl := Option.some.inj hr
 exact ⟨.inr rfl, _, (.cons (.tmp rfl) .nil), ⟨F606, S731, a7, cap8, a11, cap12, (hE608.up (by omega)), hS722, ho726, rfl, h730, hl733, h727, h728, (Ap.or0 hs732 (Ap.sub0 hs715 ap620) (Ap.sub0 hs716 ap620)), ap622, ap625, (Ap.sym (Ap.or hs732 (Ap.sub hs715 (Ap.sym ap623)) (Ap.sub hs716 (Ap.sym ap623)))), (Ap.sym (Ap.or hs732 (Ap.sub hs715 (Ap.sym ap626)) (Ap.sub hs716 (Ap.sym ap626)))), ap627⟩⟩
 }
 {
 replace hr := ite_neg hr hc713
 with_reducible refine W.seq ?_
 with_reducible refine W.region ?_
 refine WL.bin .nil rfl rfl rfl rfl rfl rfl ?_
 refine WL.assign .nil rfl rfl rfl rfl ?_
 refine WL.nil ?_
 refine Ex.thn_norm ?_
 refine W.condD rfl (fun hc735 => ?_) (fun hc735 => ?_)
 {
 replace hr := ite_pos hr hc735
 with_reducible refine W.region ?_
 refine WL.move .nil rfl rfl rfl rfl ?_
 refine WL.nilCheck .nil rfl rfl rfl rfl ?_
 refine WL.fieldAddr .nil rfl rfl rfl Try.underlying42 rfl info4 rfl rfl ?_
 refine GL.store hS644 .nil (vc := [.bool true]) rfl rfl rfl info4 rfl rfl rfl rfl hrow653 (OD.fnone h641 (OD.bS h641 hp650)) (win_fit2 hwin654 (Nat.le_of_ble_eq_true rfl) rfl (Nat.le_of_ble_eq_true rfl)) (by have := (OD.id_lt h641 (OD.bS h641 hp650)).1; omega) (one1 rfl) rfl (fun H736 hS737 ho738 hk739 => ?_)
 have ho740 := (hk739 n0 (fun hj => ap619 (by rw [hj]; exact (OD.bS h641 hp650)))).trans ho639
 have ho741 := (hk739 p0 (fun hj => ap620 (by rw [hj]; exact (OD.bS h641 hp650)))).trans ho640
 have h742 := OW.keep h642 (Nat.le_refl _) (fun i hi => hk739 i (fun hj => ap623 i hi (by rw [hj]; exact (OD.bS h641 hp650))))
 have h743 := OW.keep h643 (Nat.le_refl _) (fun i hi => hk739 i (fun hj => ap626 i hi (by rw [hj]; exact (OD.bS h641 hp650))))
 have h744 := GPeer.put_Up h641 hp650 hx647 hrow653 hwin654 (w := true) ho738 hk739
 have hl745 : x1.Peers.length = (setI x1.Peers x18.N ({ Up := true, Term := x647.Term, Vote := x647.Vote, Commit := x647.Commit, Role := x647.Role, Log := x647.Log, Votes := x647.Votes, Next := x647.Next, Match := x647.Match } : GPeer)).length := (setI_length _ _ _).symm
 have hx746 : idx (setI x1.Peers x18.N ({ Up := true, Term := x647.Term, Vote := x647.Vote, Commit := x647.Commit, Role := x647.Role, Log := x647.Log, Votes := x647.Votes, Next := x647.Next, Match := x647.Match } : GPeer)) x18.N = some ({ Up := true, Term := x647.Term, Vote := x647.Vote, Commit := x647.Commit, Role := x647.Role, Log := x647.Log, Votes := x647.Votes, Next := x647.Next, Match := x647.Match } : GPeer) := idx_setI_same hx647
 refine WL.nil ?_
 with_reducible refine Ex.blk_norm ?_
 refine Ex.thn_norm ?_
 with_reducible refine W.seq ?_
 with_reducible refine W.region ?_
 refine WL.assign .nil rfl rfl rfl rfl ?_
 refine WL.nil ?_
 refine Ex.thn_norm ?_
 with_reducible refine W.ret ?_
 obtain rfl := Option.some.inj hr
 exact ⟨.inr rfl, _, (.cons (.tmp rfl) .nil), ⟨F606, S614, a7, cap8, a11, cap12, (hE608.up (by omega)), hS737, ho741, rfl, h744, hl745, h742, h743, ap620, ap622, ap625, ap623, ap626, ap627⟩⟩
 }
 {
 replace hr := ite_neg hr hc735
 with_reducible refine W.seq ?_
 with_reducible refine W.region ?_
 refine WL.bin .nil rfl rfl rfl rfl rfl rfl ?_
 refine WL.assign .nil rfl rfl rfl rfl ?_
 refine WL.nil ?_
 refine Ex.thn_norm ?_
 refine W.condD rfl (fun hc747 => ?_) (fun hc747 => ?_)
 {
 replace hr := ite_pos hr hc747
 with_reducible refine W.seq ?_
 with_reducible refine W.block ?_
 with_reducible refine W.seq ?_
 with_reducible refine W.region ?_
 refine WL.move .nil rfl rfl rfl rfl ?_
 refine WL.nilCheck .nil rfl rfl rfl rfl ?_
 refine WL.fieldAddr .nil rfl rfl rfl Try.underlying42 rfl info3 rfl rfl ?_
 refine WL.load1 .nil rfl rfl rfl Try.underlying3 rfl rfl hrow653 ((win_get (m := 4) hwin654 (show (4 : Nat) < 9 by decide)).trans rfl) ?_
 refine WL.bin .nil rfl rfl rfl rfl rfl rfl ?_
 refine WL.assign .nil rfl rfl rfl rfl ?_
 refine WL.nil ?_
 refine Ex.thn_norm ?_
 refine W.condN rfl (fun hc795 => ?_) (fun hc795 => ?_)
 {
 replace hr := ite_neg hr hc795
 with_reducible refine W.seq ?_
 with_reducible refine W.region ?_
 refine WL.assign .nil rfl rfl rfl rfl ?_
 refine WL.nil ?_
 refine Ex.thn_norm ?_
 with_reducible refine W.ret ?_
 with_reducible refine Ex.blk_ret ?_
 with_reducible refine Ex.thn_ret ?_
 with_reducible refine Ex.blk_ret ?_
 with_reducible refine Ex.thn_ret ?_
 obtain rfl := Option.some.inj hr
 exact ⟨.inr rfl, _, (.cons (.tmp rfl) .nil), ⟨F606, S614, a7, cap8, a11, cap12, (hE608.up (by omega)), hS644, ho640, rfl, h641, rfl, h642, h643, ap620, ap622, ap625, ap623, ap626, ap627⟩⟩
 }
 {
 replace hr := ite_pos hr hc795
 with_reducible refine W.seq ?_
 refine W.cut (fun fr n H => ∃ (x812 : Bool) (S817 : Nat → Prop) (F : Heap), fr = [(0, .pointer (some ⟨p0, 0, none⟩)), (3, .pointer (some ⟨n0, 0, none⟩)), (6, .pointer (some ⟨b648, el649, none⟩)), (124, .bool x812)] ∧ St lo n H F ∧ Ext n0 F0 n F ∧ H n0 = some (.row 1 [.int .i64 x18.Kind, .int .i64 x18.N, .slice a19 x18.Data.length cap20]) ∧ F n0 = none ∧ H p0 = some (.row ez0 [.slice a2 x1.Peers.length cap3, .slice a7 x1.Net.length cap8, .slice a11 x1.Chosen.length cap12, .bool x1.Conflict]) ∧ F p0 = none ∧ SR F (.slice a19 x18.Data.length cap20) x18.Data ∧ OD lo n H F S817 [] (.slice a2 x1.Peers.length cap3) x1.Peers ∧ OW lo n H F (.slice a7 x1.Net.length cap8) x1.Net ∧ OW lo n H F (.slice a11 x1.Chosen.length cap12) x1.Chosen ∧ ¬ S817 n0 ∧ ¬ S817 p0 ∧ idOf (.slice a7 x1.Net.length cap8) ≠ some n0 ∧ idOf (.slice a7 x1.Net.length cap8) ≠ some p0 ∧ (∀ b, idOf (.slice a7 x1.Net.length cap8) = some b → ¬ S817 b) ∧ idOf (.slice a11 x1.Chosen.length cap12) ≠ some n0 ∧ idOf (.slice a11 x1.Chosen.length cap12) ≠ some p0 ∧ (∀ b, idOf (.slice a11 x1.Chosen.length cap12) = some b → ¬ S817 b) ∧ (∀ b, idOf (.slice a11 x1.Chosen.length cap12) = some b → idOf (.slice a7 x1.Net.length cap8) ≠ some b) ∧ f_impl_Cluster_event_J2 x1 x647 x18 x812 = some res) ?_ ?_
 {
 with_reducible refine W.region ?_
 refine WL.fieldAddr .nil rfl rfl rfl Try.underlying24 rfl info22 rfl rfl ?_
 refine WL.load1 .nil rfl rfl rfl Try.underlying22 rfl rfl ho639 rfl ?_
 refine WL.len .nil rfl rfl rfl Try.underlying22 rfl ?_
 refine WL.bin .nil rfl rfl rfl rfl rfl rfl ?_
 refine WL.move .nil rfl rfl rfl rfl ?_
 refine WL.guardD rfl rfl rfl (fun hg1082 => ?_) (fun hg1082 => ?_)
 {
 replace hr := ite_pos hr hg1082
 refine WL.skip .nil rfl rfl ?_
 refine WL.skip .nil rfl rfl ?_
 refine WL.skip .nil rfl rfl ?_
 refine WL.skip .nil rfl rfl ?_
 refine WL.skip .nil rfl rfl ?_
 refine WL.skip .nil rfl rfl ?_
 refine WL.pick .nil rfl rfl rfl rfl rfl ?_
 refine WL.assign .nil rfl rfl rfl rfl ?_
 refine WL.nil ?_
 refine Ex.thn_norm ?_
 exact ⟨[(0, .pointer (some ⟨p0, 0, none⟩)), (3, .pointer (some ⟨n0, 0, none⟩)), (6, .pointer (some ⟨b648, el649, none⟩)), (124, .bool true)], (Fr.le_cons rfl (Fr.le_cons rfl (Fr.le_cons rfl (Fr.le_cons rfl Fr.le_nil)))), true, S614, F606, rfl, hS644, (hE608.up (by omega)), ho639, fo612, ho640, fo618, h610, h641, h642, h643, ap619, ap620, ap621, ap622, ap623, ap624, ap625, ap626, ap627, hr⟩
 }
 {
 replace hr := ite_neg hr hg1082
 refine WL.move .nil rfl rfl rfl rfl ?_
 refine WL.nilCheck .nil rfl rfl rfl rfl ?_
 refine WL.fieldAddr .nil rfl rfl rfl Try.underlying42 rfl info28 rfl rfl ?_
 obtain ⟨S1083, hs1084, hs1085, hs1086, h1087, h1088⟩ := GPeer.open_Log h641 hp650 hx647 hrow653 hwin654 (List.forall_mem_nil _)
 refine WL.load1 .nil rfl rfl rfl Try.underlying28 rfl rfl hrow653 ((win_get (m := 5) hwin654 (show (5 : Nat) < 9 by decide)).trans rfl) ?_
 refine WL.len .nil rfl rfl rfl Try.underlying28 rfl ?_
 refine WL.bin .nil rfl rfl rfl rfl rfl rfl ?_
 refine WL.pick .nil rfl rfl rfl rfl rfl ?_
 refine WL.assign .nil rfl rfl rfl rfl ?_
 refine WL.nil ?_
 refine Ex.thn_norm ?_
 obtain ⟨S1090, hs1091, h1092⟩ := GPeer.close0_Log h1088 hx647 h1087
 exact ⟨[(0, .pointer (some ⟨p0, 0, none⟩)), (3, .pointer (some ⟨n0, 0, none⟩)), (6, .pointer (some ⟨b648, el649, none⟩)), (124, .bool (decide ((100 : Int) ≤ (x647.Log.length : Int))))], (Fr.le_cons rfl (Fr.le_cons rfl (Fr.le_cons rfl (Fr.le_cons rfl Fr.le_nil)))), (decide ((100 : Int) ≤ (x647.Log.length : Int))), S1090, F606, rfl, hS644, (hE608.up (by omega)), ho639, fo612, ho640, fo618, h610, h1092, h642, h643, (Ap.or0 hs1091 (Ap.sub0 hs1084 ap619) (Ap.sub0 hs1085 ap619)), (Ap.or0 hs1091 (Ap.sub0 hs1084 ap620) (Ap.sub0 hs1085 ap620)), ap621, ap622, (Ap.sym (Ap.or hs1091 (Ap.sub hs1084 (Ap.sym ap623)) (Ap.sub hs1085 (Ap.sym ap623)))), ap624, ap625, (Ap.sym (Ap.or hs1091 (Ap.sub hs1084 (Ap.sym ap626)) (Ap.sub hs1085 (Ap.sym ap626)))), ap627, hr⟩
 }
 }
 {
 intro _ n807 H808 hI
 obtain ⟨x812, S817, F809, rfl, hS810, hE811, ho814, fo815, ho820, fo821, h813, h816, h818, h819, ap822, ap823, ap824, ap825, ap826, ap827, ap828, ap829, ap830, hr⟩ := hI
 have lt831 := hS810.lt ho814
 have lt832 := hS810.lt ho820
 have hlen807 := hE811.le
 have hlon807 := hS810.lo
 unfold f_impl_Cluster_event_J2 at hr
 refine W.cond rfl (fun hc833 => ?_) (fun hc833 => ?_)
 {
 replace hr := iteB_pos hr hc833
 with_reducible refine W.seq ?_
 with_reducible refine W.region ?_
 refine WL.assign .nil rfl rfl rfl rfl ?_
 refine WL.nil ?_
 refine Ex.thn_norm ?_
 with_reducible refine W.ret ?_
 with_reducible refine Ex.blk_ret ?_
 with_reducible refine Ex.thn_ret ?_
 with_reducible refine Ex.blk_ret ?_
 with_reducible refine Ex.thn_ret ?_
 obtain rfl := Option.some.inj hr
 exact ⟨.inr rfl, _, (.cons (.tmp rfl) .nil), ⟨F809, S817, a7, cap8, a11, cap12, (hE811.up (by omega)), hS810, ho820, rfl, h816, rfl, h818, h819, ap823, ap825, ap828, ap826, ap829, ap830⟩⟩
 }
 {
 replace hr := iteB_neg hr hc833
 with_reducible refine W.skip ?_
 with_reducible refine Ex.blk_norm ?_
 refine Ex.thn_norm ?_
 with_reducible refine W.seq ?_
 refine W.regionI (fun H => True) [0, 1, 2, 3, 4, 5, 6, 7, 8, 9, 10, 11, 12, 13, 14, 15, 16, 17, 18, 19, 20, 21, 22, 23] [(false, true, false), (false, false, false), (false, false, false), (false, false, false), (false, false, false), (false, false, false), (false, false, false), (false, false, false), (false, false, false), (false, false, false), (false, false, false), (false, false, false), (false, false, false), (false, false, false), (false, false, false), (false, false, false), (false, false, false), (false, false, false), (false, false, false), (false, false, false), (true, false, false), (false, false, false), (false, false, false), (true, false, true)] false rfl (by kernel_rfl) (by kernel_rfl) (by (conv => lhs; simp only [List.map_cons, List.map_nil, List.getD_cons_zero, List.getD_cons_succ]) <;> rfl) ?_
 refine WLI.late (v := .pointer (some ⟨b648, el649, none⟩)) (fun h => by cases h) rfl rfl (fun H2 hI2 => .move (.inl rfl) rfl) ?_
 refine WLI.op (fun h => by cases h) ?_
 refine WL.move .r rfl rfl rfl rfl ?_
 with_reducible refine WL.nil ⟨rfl, ?_⟩
 refine WLI.op (fun h => by cases h) ?_
 refine WL.nilCheck .r rfl rfl rfl rfl ?_
 with_reducible refine WL.nil ⟨rfl, ?_⟩
 refine WLI.op (fun h => by cases h) ?_
 refine WL.fieldAddr .r rfl rfl rfl Try.underlying42 rfl info28 rfl rfl ?_
 with_reducible refine WL.nil ⟨rfl, ?_⟩
 refine WLI.op (fun h => by cases h) ?_
 obtain ⟨c835, ecs836, hrow837, hwin838, hb839⟩ := OD.get h816 hp650 hx647
 obtain ⟨a840, cap841, a842, cap843, a844, cap845, a846, cap847, rfl⟩ := GPeer.ofB hb839
 obtain ⟨S848, hs849, hs850, hs851, h852, h853⟩ := GPeer.open_Log h816 hp650 hx647 hrow837 hwin838 (List.forall_mem_nil _)
 refine WL.load1 .r rfl rfl rfl Try.underlying28 rfl rfl hrow837 ((win_get (m := 5) hwin838 (show (5 : Nat) < 9 by decide)).trans rfl) ?_
 with_reducible refine WL.nil ⟨rfl, ?_⟩
 refine WLI.op (fun h => by cases h) ?_
 refine WL.move .r rfl rfl rfl rfl ?_
 with_reducible refine WL.nil ⟨rfl, ?_⟩
 refine WLI.op (fun h => by cases h) ?_
 refine WL.nilCheck .r rfl rfl rfl rfl ?_
 with_reducible refine WL.nil ⟨rfl, ?_⟩
 refine WLI.op (fun h => by cases h) ?_
 refine WL.fieldAddr .r rfl rfl rfl Try.underlying42 rfl info3 rfl rfl ?_
 with_reducible refine WL.nil ⟨rfl, ?_⟩
 refine WLI.op (fun h => by cases h) ?_
 refine WL.load1 .r rfl rfl rfl Try.underlying3 rfl rfl hrow837 ((win_get (m := 1) hwin838 (show (1 : Nat) < 9 by decide)).trans rfl) ?_
 with_reducible refine WL.nil ⟨rfl, ?_⟩
 refine WLI.op (fun h => by cases h) ?_
 refine WL.move .r rfl rfl rfl rfl ?_
 with_reducible refine WL.nil ⟨rfl, ?_⟩
 refine WLI.op (fun h => by cases h) ?_
 refine WL.nilCheck .r rfl rfl rfl rfl ?_
 with_reducible refine WL.nil ⟨rfl, ?_⟩
 refine WLI.op (fun h => by cases h) ?_
 refine WL.fieldAddr .r rfl rfl rfl Try.underlying42 rfl info28 rfl rfl ?_
 with_reducible refine WL.nil ⟨rfl, ?_⟩
 refine WLI.op (fun h => by cases h) ?_
 refine WL.load1 .r rfl rfl rfl Try.underlying28 rfl rfl hrow837 ((win_get (m := 5) hwin838 (show (5 : Nat) < 9 by decide)).trans rfl) ?_
 with_reducible refine WL.nil ⟨rfl, ?_⟩
 refine WLI.op (fun h => by cases h) ?_
 refine WL.len .r rfl rfl rfl Try.underlying28 rfl ?_
 with_reducible refine WL.nil ⟨rfl, ?_⟩
 refine WLI.op (fun h => by cases h) ?_
 obtain ⟨hc855, hr⟩ := chk_some hr
 refine WL.addI .r rfl rfl rfl rfl rfl hc855.1 hc855.2 ?_
 with_reducible refine WL.nil ⟨rfl, ?_⟩
 refine WLI.op (fun h => by cases h) ?_
 refine WL.fieldAddr .r rfl rfl rfl Try.underlying24 rfl info22 rfl rfl ?_
 with_reducible refine WL.nil ⟨rfl, ?_⟩
 refine WLI.op (fun h => by cases h) ?_
 refine WL.load1 .r rfl rfl rfl Try.underlying22 rfl rfl ho814 rfl ?_
 with_reducible refine WL.nil ⟨rfl, ?_⟩
 refine WLI.op (fun h => by cases h) ?_
 obtain ⟨x856, hx856, hr⟩ := bnd_some hr
 refine GL.callP g.good .r rfl rfl rfl rfl rfl rfl Try.func59 rfl rfl (Nat.le_refl _) (f_slices_Clone_byte_k  g hS810 (SR.src h813 hS810.fh) hx856) (fun v n857 H858 hn859 hk860 hp861 => ?_)
 obtain ⟨a862, cap863, hS865, rfl, h864⟩ := hp861
 have ho866 := (hk860 _ (by have := lt831; omega)).trans ho814
 have ho867 := (hk860 _ (by have := lt832; omega)).trans ho820
 have h868 := OD.keep (n' := n857) h853 (by omega) (fun i hi => hk860 i (OD.id_lt h853 hi).2)
 have h869 := OW.keep (n' := n857) h818 (by omega) (fun i hi => hk860 i (OW.id_lt h818 hi).2)
 have h870 := OW.keep (n' := n857) h819 (by omega) (fun i hi => hk860 i (OW.id_lt h819 hi).2)
 have h871 := OW.keep (n' := n857) h852 (by omega) (fun i hi => hk860 i (OW.id_lt h852 hi).2)
 have hS872 : St lo n857 H858 F809 := ⟨by have := hS810.lo; omega, hS865.hb, hS865.fh⟩
 have hlon857 := hS872.lo
 have h873 := OW.lower (lo' := n0) h864 (by omega)
 with_reducible refine WL.nil ⟨rfl, ?_⟩
 refine WLI.op (fun h => by cases h) ?_
 refine WL.buildL .r (cells := [.int .i64 x647.Term, .int .i64 ((x647.Log.length : Int) + 1), .slice a862 x856.length cap863]) rfl rfl rfl Try.underlying35 info35 rfl rfl rfl (by simp only [List.mapM_cons, List.mapM_nil, info3, info3, info22]; rfl) rfl (by first | rfl | ((conv => lhs; simp [splice, fillL, cells_int, cells_bool, cells_string, cells_str, cells_slice, cells_ptr, cells_map, cells_func, cells_nilFunc, cells_nilIface, cells_iface, cells_agg, cells_u8]) <;> rfl)) ?_
 with_reducible refine WL.nil ⟨rfl, ?_⟩
 refine WLI.op (fun h => by cases h) ?_
 obtain ⟨F881, hS882, hle883, h884, hf885⟩ := OW.freeze h873 hS872
 have fo886 := (hf885 _ (Ap.fresh0 (OW.lb h864) (by have := lt831; omega))).trans fo815
 have fo887 := (hf885 _ (Ap.fresh0 (OW.lb h864) (by have := lt832; omega))).trans fo821
 have h888 := OD.keepF h868 hle883 (fun i hi => (hf885 i (fun hj => (Ap.fresh (OW.lb h864) (OD.hb h853)) i hj hi)).trans (OD.fnone h868 hi))
 have h889 := OW.keepF h869 hle883 (fun i hi => (hf885 i (fun hj => (Ap.fresh (OW.lb h864) (OW.hb h818)) i hj hi)).trans (OW.fnone h869 hi))
 have h890 := OW.keepF h870 hle883 (fun i hi => (hf885 i (fun hj => (Ap.fresh (OW.lb h864) (OW.hb h819)) i hj hi)).trans (OW.fnone h870 hi))
 have h891 := OW.keepF h871 hle883 (fun i hi => (hf885 i (fun hj => (Ap.fresh (OW.lb h864) (OW.hb h852)) i hj hi)).trans (OW.fnone h871 hi))
 have hE892 : Ext n0 F0 n857 F881 := ⟨Nat.le_trans hE811.le (by omega), hE811.sub.trans hle883, fun i hi => (hf885 i (fun hj => by have := OW.id_lt h873 hj; omega)).trans (hE811.eq i hi)⟩
 refine GL.lit (cs := [.int .i64 x647.Term, .int .i64 ((x647.Log.length : Int) + 1), .slice a862 x856.length cap863]) (xs := ([({ Term := x647.Term, Index := ((x647.Log.length : Int) + 1), Data := x856 } : GRec)] : List GRec)) hS882 .r rfl rfl rfl Try.underlying28 info35 rfl rfl rfl (by decide) (by decide) rfl rfl rfl rfl rfl (RA.cons (cs := [.int .i64 x647.Term, .int .i64 ((x647.Log.length : Int) + 1), .slice a862 x856.length cap863]) (a := (({ Term := x647.Term, Index := ((x647.Log.length : Int) + 1), Data := x856 } : GRec) : GRec)) (GRec.toR (x := ({ Term := x647.Term, Index := ((x647.Log.length : Int) + 1), Data := x856 } : GRec)) h884) RA.nil) rfl (fun H893 hS894 hO895 hk896 => ?_)
 have ho897 := (hk896 _ (by have := lt831; omega)).trans ho866
 have ho898 := (hk896 _ (by have := lt832; omega)).trans ho867
 have h899 := OD.keep (n' := (n857 + 1)) h888 (by omega) (fun i hi => hk896 i (OD.id_lt h888 hi).2)
 have h900 := OW.keep (n' := (n857 + 1)) h889 (by omega) (fun i hi => hk896 i (OW.id_lt h889 hi).2)
 have h901 := OW.keep (n' := (n857 + 1)) h890 (by omega) (fun i hi => hk896 i (OW.id_lt h890 hi).2)
 have h902 := OW.keep (n' := (n857 + 1)) h891 (by omega) (fun i hi => hk896 i (OW.id_lt h891 hi).2)
 have h903 := OW.lower (lo' := n0) hO895 (by omega)
 have hlon8571 := hS894.lo
 with_reducible refine WL.nil ⟨rfl, ?_⟩
 refine WLI.op (fun h => by cases h) ?_
 obtain ⟨hc911, hr⟩ := chk_some hr
 refine GL.append (α := GRec) hS894 .w rfl rfl rfl Try.underlying28 Try.underlying28 rfl info35 rfl rfl rfl (by decide) rfl rfl h902 (by omega) (by omega) (OW.src h903) hc911 (fun a912 cap913 n914 H915 hS916 hn917 hO918 hk919 hid920 => ?_)
 have ho921 := (hk919 _ (by have := lt831; omega) (Ap.sub0 hs850 ap822)).trans ho897
 have ho922 := (hk919 _ (by have := lt832; omega) (Ap.sub0 hs850 ap823)).trans ho898
 have h923 := OD.keep h899 hn917 (fun i hi => hk919 i (OD.id_lt h899 hi).2 (fun hj => hs851 _ hj hi))
 have h924 := OW.keep h900 hn917 (fun i hi => hk919 i (OW.id_lt h900 hi).2 (fun hj => (Ap.sub hs850 (Ap.sym ap826)) _ hj hi))
 have h925 := OW.keep h901 hn917 (fun i hi => hk919 i (OW.id_lt h901 hi).2 (fun hj => (Ap.sub hs850 (Ap.sym ap829)) _ hj hi))
 have h926 := OW.keep h903 hn917 (fun i hi => hk919 i (OW.id_lt h903 hi).2 (fun hj => (Ap.sym (Ap.fresh (OW.lb hO895) (OW.hb h891))) _ hj hi))
 have hlon914 := hS916.lo
 with_reducible refine WL.nil ⟨rfl, ?_⟩
 refine WLI.op (fun h => by cases h) ?_
 refine WL.nilCheck .r rfl rfl rfl rfl ?_
 with_reducible refine WL.nil ⟨rfl, ?_⟩
 refine WLI.op (fun h => by cases h) ?_
 refine WL.fieldAddr .r rfl rfl rfl Try.underlying42 rfl info28 rfl rfl ?_
 with_reducible refine WL.nil ⟨rfl, ?_⟩
 refine WLI.op (fun _ => trivial) ?_
 obtain ⟨c934, ecs935, hrow936, hwin937, hb938⟩ := OD.get h923 hp650 hx647
 obtain ⟨a939, cap940, a941, cap942, a943, cap944, a945, cap946, rfl⟩ := GPeer.ofB hb938
 have hq947 := OD.hole h923 hp650 hx647 hrow936 hwin937
 obtain ⟨rfl, rfl⟩ := hdr_eq (a := a939) (c := cap940) hq947
 refine GL.store hS916 .w (vc := [.slice a912 (x647.Log ++ ([({ Term := x647.Term, Index := ((x647.Log.length : Int) + 1), Data := x856 } : GRec)] : List GRec)).length cap913]) rfl rfl rfl info28 rfl rfl rfl rfl hrow936 (OD.fnone h923 (OD.bS h923 hp650)) (win_fit2 hwin937 (Nat.le_of_ble_eq_true rfl) rfl (Nat.le_of_ble_eq_true rfl)) (by have := (OD.id_lt h923 (OD.bS h923 hp650)).1; omega) (one1 rfl) rfl (fun H948 hS949 ho950 hk951 => ?_)
 have ho952 := (hk951 n0 (fun hj => (Ap.sub0 hs849 ap822) (by rw [hj]; exact (OD.bS h923 hp650)))).trans ho921
 have ho953 := (hk951 p0 (fun hj => (Ap.sub0 hs849 ap823) (by rw [hj]; exact (OD.bS h923 hp650)))).trans ho922
 have h954 := OW.keep h924 (Nat.le_refl _) (fun i hi => hk951 i (fun hj => (Ap.sym (Ap.sub hs849 (Ap.sym ap826))) i hi (by rw [hj]; exact (OD.bS h923 hp650))))
 have h955 := OW.keep h925 (Nat.le_refl _) (fun i hi => hk951 i (fun hj => (Ap.sym (Ap.sub hs849 (Ap.sym ap829))) i hi (by rw [hj]; exact (OD.bS h923 hp650))))
 have h956 := OW.keep h926 (Nat.le_refl _) (fun i hi => hk951 i (fun hj => (Ap.fresh (OW.lb hO895) (OD.hb h888)) i hi (by rw [hj]; exact (OD.bS h923 hp650))))
 have h957 := OW.keep hO918 (Nat.le_refl _) (fun i hi => hk951 i (fun hj => (Ap.new hid920 (OD.hb h899) hs851) i hi (by rw [hj]; exact (OD.bS h923 hp650))))
 obtain ⟨S959, hs960, h958⟩ := GPeer.set_Log h923 hp650 hx647 hrow936 hwin937 hO918 (fun i hi => (Ap.new hid920 (OD.hb h899) hs851) i hi) z10 z00 ho950 hk951
 have ap961 : ∀ b, S959 b → idOf (.slice (some ⟨n857, 0, none⟩) ([({ Term := x647.Term, Index := ((x647.Log.length : Int) + 1), Data := x856 } : GRec)] : List GRec).length 1) ≠ some b := Ap.or hs960 (Ap.sym (Ap.fresh (OW.lb hO895) (OD.hb h888))) (Ap.new hid920 (OW.hb h903) (Ap.sym (Ap.fresh (OW.lb hO895) (OW.hb h891))))
 have hl962 : x1.Peers.length = (setI x1.Peers x18.N ({ Up := x647.Up, Term := x647.Term, Vote := x647.Vote, Commit := x647.Commit, Role := x647.Role, Log := (x647.Log ++ ([({ Term := x647.Term, Index := ((x647.Log.length : Int) + 1), Data := x856 } : GRec)] : List GRec)), Votes := x647.Votes, Next := x647.Next, Match := x647.Match } : GPeer)).length := (setI_length _ _ _).symm
 have hx963 : idx (setI x1.Peers x18.N ({ Up := x647.Up, Term := x647.Term, Vote := x647.Vote, Commit := x647.Commit, Role := x647.Role, Log := (x647.Log ++ ([({ Term := x647.Term, Index := ((x647.Log.length : Int) + 1), Data := x856 } : GRec)] : List GRec)), Votes := x647.Votes, Next := x647.Next, Match := x647.Match } : GPeer)) x18.N = some ({ Up := x647.Up, Term := x647.Term, Vote := x647.Vote, Commit := x647.Commit, Role := x647.Role, Log := (x647.Log ++ ([({ Term := x647.Term, Index := ((x647.Log.length : Int) + 1), Data := x856 } : GRec)] : List GRec)), Votes := x647.Votes, Next := x647.Next, Match := x647.Match } : GPeer) := idx_setI_same hx647
 with_reducible refine WL.nil ⟨rfl, ?_⟩
 refine WLI.nil (fun h => by cases h) ?_
 refine Ex.thn_norm ?_
 with_reducible refine W.seq ?_
 refine W.regionD [0, 1, 2, 3, 4, 5, 6, 7, 8, 9, 10, 11, 12] [false, false, false, false, false, false, false, false, false, false, false, false, true] rfl rfl (by kernel_rfl) (by kernel_rfl) (by (conv => lhs; simp only [List.map_cons, List.map_nil, List.getD_cons_zero, List.getD_cons_succ]) <;> rfl) ?_
 refine WL.move .r rfl rfl rfl rfl ?_
 refine WL.nilCheck .r rfl rfl rfl rfl ?_
 refine WL.fieldAddr .r rfl rfl rfl Try.underlying42 rfl info31 rfl rfl ?_
 obtain ⟨c964, ecs965, hrow966, hwin967, hb968⟩ := OD.get h958 hp650 hx963
 obtain ⟨a969, cap970, a971, cap972, a973, cap974, a975, cap976, rfl⟩ := GPeer.ofB hb968
 obtain ⟨S977, hs978, hs979, hs980, h981, h982⟩ := GPeer.open_Match h958 hp650 hx963 hrow966 hwin967 (List.forall_mem_nil _)
 have ap984 : idOf (.slice a975 x647.Match.length cap976) ≠ some n0 := Ap.sub0 hs979 (Ap.or0 hs960 (Ap.sub0 hs849 ap822) (Ap.new0 hid920 (by have := lt831; omega) (Ap.sub0 hs850 ap822)))
 have ap985 : idOf (.slice a975 x647.Match.length cap976) ≠ some p0 := Ap.sub0 hs979 (Ap.or0 hs960 (Ap.sub0 hs849 ap823) (Ap.new0 hid920 (by have := lt832; omega) (Ap.sub0 hs850 ap823)))
 have ap986 : ∀ b, idOf (.slice a975 x647.Match.length cap976) = some b → idOf (.slice a7 x1.Net.length cap8) ≠ some b := Ap.sub hs979 (Ap.or hs960 (Ap.sub hs849 (Ap.sym ap826)) (Ap.new hid920 (OW.hb h900) (Ap.sub hs850 (Ap.sym ap826))))
 have ap987 : ∀ b, idOf (.slice a975 x647.Match.length cap976) = some b → idOf (.slice a11 x1.Chosen.length cap12) ≠ some b := Ap.sub hs979 (Ap.or hs960 (Ap.sub hs849 (Ap.sym ap829)) (Ap.new hid920 (OW.hb h901) (Ap.sub hs850 (Ap.sym ap829))))
 have ap988 : ¬ S977 n0 := Ap.sub0 hs978 (Ap.or0 hs960 (Ap.sub0 hs849 ap822) (Ap.new0 hid920 (by have := lt831; omega) (Ap.sub0 hs850 ap822)))
 have ap989 : ¬ S977 p0 := Ap.sub0 hs978 (Ap.or0 hs960 (Ap.sub0 hs849 ap823) (Ap.new0 hid920 (by have := lt832; omega) (Ap.sub0 hs850 ap823)))
 have ap990 : ∀ b, S977 b → idOf (.slice a7 x1.Net.length cap8) ≠ some b := Ap.sub hs978 (Ap.or hs960 (Ap.sub hs849 (Ap.sym ap826)) (Ap.new hid920 (OW.hb h900) (Ap.sub hs850 (Ap.sym ap826))))
 have ap991 : ∀ b, S977 b → idOf (.slice a11 x1.Chosen.length cap12) ≠ some b := Ap.sub hs978 (Ap.or hs960 (Ap.sub hs849 (Ap.sym ap829)) (Ap.new hid920 (OW.hb h901) (Ap.sub hs850 (Ap.sym ap829))))
 refine WL.load1 .r rfl rfl rfl Try.underlying31 rfl rfl hrow966 ((win_get (m := 8) hwin967 (show (8 : Nat) < 9 by decide)).trans rfl) ?_
 refine WL.fieldAddr .r rfl rfl rfl Try.underlying24 rfl info3 rfl rfl ?_
 refine WL.load1 .r rfl rfl rfl Try.underlying3 rfl rfl ho952 rfl ?_
 refine WL.move .r rfl rfl rfl rfl ?_
 refine WL.nilCheck .r rfl rfl rfl rfl ?_
 refine WL.fieldAddr .r rfl rfl rfl Try.underlying42 rfl info28 rfl rfl ?_
 obtain ⟨S992, hs993, hs994, hs995, h996, h997⟩ := GPeer.open_Log h982 hp650 hx963 hrow966 hwin967 (List.forall_mem_cons.2 ⟨fun h => absurd (show (8 : Nat) = 5 from h.2) (by decide), List.forall_mem_nil _⟩)
 refine WL.load1 .r rfl rfl rfl Try.underlying28 rfl rfl hrow966 ((win_get (m := 5) hwin967 (show (5 : Nat) < 9 by decide)).trans rfl) ?_
 refine WL.len .r rfl rfl rfl Try.underlying28 rfl ?_
 obtain ⟨x999, hx999, hr⟩ := bnd_some hr
 refine GL.indexO .r rfl rfl rfl Try.underlying31 info3 rfl rfl h981 rfl hx999 (fun b1000 kp1001 c1002 ecs1003 hid1007 hrow1004 hwin1005 hR1006 hup1008 => ?_)
 have hcs : _ = ([.int .i64 x999] : List Value) := hR1006
 subst hcs
 refine GL.store hS949 .w (vc := [.int .i64 ((x647.Log ++ ([({ Term := x647.Term, Index := ((x647.Log.length : Int) + 1), Data := x856 } : GRec)] : List GRec)).length : Int)]) rfl rfl rfl info3 rfl rfl rfl rfl hrow1004 (OW.fnone h981 hid1007) (by first | exact win_fit hwin1005 (Nat.le_of_ble_eq_true rfl) rfl (Nat.le_of_ble_eq_true rfl) | exact win_fit2 hwin1005 (Nat.le_of_ble_eq_true rfl) rfl (Nat.le_of_ble_eq_true rfl) | exact win_fit3 hwin1005 (Nat.le_of_ble_eq_true rfl) rfl (Nat.le_of_ble_eq_true rfl)) (OW.id_lt h981 hid1007).1 (one1 rfl) rfl (fun H1009 hS1010 ho1011 hk1012 => ?_)
 have h1013 := hup1008 0 [.int .i64 ((x647.Log ++ ([({ Term := x647.Term, Index := ((x647.Log.length : Int) + 1), Data := x856 } : GRec)] : List GRec)).length : Int)] (((x647.Log ++ ([({ Term := x647.Term, Index := ((x647.Log.length : Int) + 1), Data := x856 } : GRec)] : List GRec)).length : Int) : Int) H1009 (Nat.le_of_ble_eq_true rfl) rfl ho1011
 have ho1014 := (hk1012 n0 (fun hj => ap984 (by rw [hj]; exact hid1007))).trans ho952
 have ho1015 := (hk1012 p0 (fun hj => ap985 (by rw [hj]; exact hid1007))).trans ho953
 have h1016 := OD.keep h997 (Nat.le_refl _) (fun i hi => hk1012 i (fun hj => (Ap.sub hs993 (Ap.sym hs980)) i hi (by rw [hj]; exact hid1007)))
 have h1017 := OW.keep h954 (Nat.le_refl _) (fun i hi => hk1012 i (fun hj => (Ap.sym ap986) i hi (by rw [hj]; exact hid1007)))
 have h1018 := OW.keep h955 (Nat.le_refl _) (fun i hi => hk1012 i (fun hj => (Ap.sym ap987) i hi (by rw [hj]; exact hid1007)))
 have h1019 := OW.keep h956 (Nat.le_refl _) (fun i hi => hk1012 i (fun hj => (Ap.sym (Ap.sub hs979 ap961)) i hi (by rw [hj]; exact hid1007)))
 have h1020 := OW.keep h996 (Nat.le_refl _) (fun i hi => hk1012 i (fun hj => (Ap.sub hs994 (Ap.sym hs980)) i hi (by rw [hj]; exact hid1007)))
 have hl1021 : x647.Match.length = (setI x647.Match x18.N ((x647.Log ++ ([({ Term := x647.Term, Index := ((x647.Log.length : Int) + 1), Data := x856 } : GRec)] : List GRec)).length : Int)).length := (setI_length _ _ _).symm
 refine WL.nil ?_
 refine Ex.thn_norm ?_
 with_reducible refine W.region ?_
 refine WL.move .nil rfl rfl rfl rfl ?_
 refine WL.fieldAddr .nil rfl rfl rfl Try.underlying24 rfl info3 rfl rfl ?_
 refine WL.load1 .nil rfl rfl rfl Try.underlying3 rfl rfl ho1014 rfl ?_
 obtain ⟨S1022, hs1023, h1024⟩ := GPeer.close0_Log h1016 hx963 h1020
 obtain ⟨S1025, hs1026, h1027⟩ := GPeer.close_Match h1024 hx963 hl1021 h1013
 have ap1028 : ∀ b, S1025 b → idOf (.slice (some ⟨n857, 0, none⟩) ([({ Term := x647.Term, Index := ((x647.Log.length : Int) + 1), Data := x856 } : GRec)] : List GRec).length 1) ≠ some b := Ap.or hs1026 (Ap.or hs1023 (Ap.sub hs993 (Ap.sub hs978 ap961)) (Ap.sub hs994 (Ap.sub hs978 ap961))) (Ap.sub hs979 ap961)
 rw [setI_setI] at h1027
 have hl1029 : x1.Peers.length = (setI x1.Peers x18.N ({ Up := x647.Up, Term := x647.Term, Vote := x647.Vote, Commit := x647.Commit, Role := x647.Role, Log := (x647.Log ++ ([({ Term := x647.Term, Index := ((x647.Log.length : Int) + 1), Data := x856 } : GRec)] : List GRec)), Votes := x647.Votes, Next := x647.Next, Match := (setI x647.Match x18.N ((x647.Log ++ ([({ Term := x647.Term, Index := ((x647.Log.length : Int) + 1), Data := x856 } : GRec)] : List GRec)).length : Int)) } : GPeer)).length := hl962.trans (by rw [setI_length, setI_length])
 have hx1030 : idx (setI x1.Peers x18.N ({ Up := x647.Up, Term := x647.Term, Vote := x647.Vote, Commit := x647.Commit, Role := x647.Role, Log := (x647.Log ++ ([({ Term := x647.Term, Index := ((x647.Log.length : Int) + 1), Data := x856 } : GRec)] : List GRec)), Votes := x647.Votes, Next := x647.Next, Match := (setI x647.Match x18.N ((x647.Log ++ ([({ Term := x647.Term, Index := ((x647.Log.length : Int) + 1), Data := x856 } : GRec)] : List GRec)).length : Int)) } : GPeer)) x18.N = some ({ Up := x647.Up, Term := x647.Term, Vote := x647.Vote, Commit := x647.Commit, Role := x647.Role, Log := (x647.Log ++ ([({ Term := x647.Term, Index := ((x647.Log.length : Int) + 1), Data := x856 } : GRec)] : List GRec)), Votes := x647.Votes, Next := x647.Next, Match := (setI x647.Match x18.N ((x647.Log ++ ([({ Term := x647.Term, Index := ((x647.Log.length : Int) + 1), Data := x856 } : GRec)] : List GRec)).length : Int)) } : GPeer) := idx_setI_same hx647
 obtain ⟨x1031, hx1031, hr⟩ := bnd_some hr
 refine GL.callIO g .nil (fun i => (F881 i).isSome = true ∨ i = p0 ∨ S1025 i ∨ idOf (.slice a7 x1.Net.length cap8) = some i ∨ idOf (.slice a11 x1.Chosen.length cap12) = some i) rfl rfl rfl rfl rfl rfl Try.func60 rfl rfl (Nat.le_refl _) hS1010.lo (f_impl_Cluster_commit_k (x1 := ({ Peers := (setI x1.Peers x18.N ({ Up := x647.Up, Term := x647.Term, Vote := x647.Vote, Commit := x647.Commit, Role := x647.Role, Log := (x647.Log ++ ([({ Term := x647.Term, Index := ((x647.Log.length : Int) + 1), Data := x856 } : GRec)] : List GRec)), Votes := x647.Votes, Next := x647.Next, Match := (setI x647.Match x18.N ((x647.Log ++ ([({ Term := x647.Term, Index := ((x647.Log.length : Int) + 1), Data := x856 } : GRec)] : List GRec)).length : Int)) } : GPeer)), Net := x1.Net, Chosen := x1.Chosen, Conflict := x1.Conflict } : GCluster)) g (St.vis hS1010 (fun i hi => .inl hi)) (by rw [← hl1029]; exact vis_get ho1015 (.inr (.inl rfl))) fo887 lo17 (OD.head hl1029 (OD.vis h1027 (fun i hi => (.inr (.inr (.inl hi)))))) (OW.vis h1017 (fun i hi => (.inr (.inr (.inr (.inl hi)))))) (OW.vis h1018 (fun i hi => (.inr (.inr (.inr (.inr (hi))))))) (Ap.or0 hs1026 (Ap.or0 hs1023 (Ap.sub0 hs993 ap989) (Ap.sub0 hs994 ap989)) ap985) ap825 (Ap.sym (Ap.or hs1026 (Ap.or hs1023 (Ap.sub hs993 ap990) (Ap.sub hs994 ap990)) ap986)) ap828 (Ap.sym (Ap.or hs1026 (Ap.or hs1023 (Ap.sub hs993 ap991) (Ap.sub hs994 ap991)) ap987)) ap830 hx1031) (fun v n1032 H1033 H1034 hn1035 hp1036 hle1037 hnew1038 hk1039 hd1040 => ?_)
 obtain ⟨F1051, S1042, a1044, cap1045, a1047, cap1048, hX1052, hS1050, ho1053, rfl, h1041, hl1043, h1046, h1049, ap1054, ap1055, ap1056, ap1057, ap1058, ap1059⟩ := hp1036
 have hS1060 : St lo n1032 H1033 _ := ⟨hS1050.lo, fun i hi => (hnew1038 i (by omega)).trans (hS1050.hb i hi), hS1050.fh.trans hle1037⟩
 have ho1061 := (hk1039 _ (by have := lt831; omega) (fun hs => by
      rcases hs with h | h | h | h | h
      · rw [fo886] at h; cases h
      · omega
      · exact (Ap.or0 hs1026 (Ap.or0 hs1023 (Ap.sub0 hs993 ap988) (Ap.sub0 hs994 ap988)) ap984) h
      · exact ap824 h
      · exact ap827 h)).trans ho1014
 have h1062 := OW.keep (n' := n1032) h1019 (by omega) (fun i hi => hk1039 i (OW.id_lt h1019 hi).2 (fun hs => by
      rcases hs with h | h | h | h | h
      · rw [(OW.fnone h1019 hi)] at h; cases h
      · exact (Ap.fresh0 (OW.lb hO895) (by have := lt832; omega)) (h ▸ hi)
      · exact ap1028 _ h hi
      · exact (Ap.sym (Ap.fresh (OW.lb hO895) (OW.hb h889))) _ h hi
      · exact (Ap.sym (Ap.fresh (OW.lb hO895) (OW.hb h890))) _ h hi))
 have fo1063 := (hX1052.eq _ (by have := lt831; omega)).trans fo886
 have fo1064 := (hX1052.eq _ (by have := lt832; omega)).trans fo887
 have h1065 := OW.keepF h1062 hX1052.sub (fun i hi => (hX1052.eq i (by have := (OW.hb h1019) i hi; omega)).trans (OW.fnone h1062 hi))
 have hE1066 := (hE892.up (n' := n914) (by omega)).trans hX1052
 have ho1067 := hle1037 _ _ ho1053
 have h1068 := OD.le h1041 hle1037
 have hl1069 : x1.Peers.length = x1031.Peers.length := hl1029.trans hl1043
 rw [← hl1029] at h1068
 have h1071 := OW.le h1046 hle1037
 have h1073 := OW.le h1049 hle1037
 rw [← hl1029] at ho1067
 have ap1074 : ¬ S1042 n0 := fun hj => (OD.after h1041 hd1040 hj).elim (fun h => by have := lt831; omega) (fun hs => by
      rcases hs with h | h | h | h | h
      · rw [fo886] at h; cases h
      · omega
      · exact (Ap.or0 hs1026 (Ap.or0 hs1023 (Ap.sub0 hs993 ap988) (Ap.sub0 hs994 ap988)) ap984) h
      · exact ap824 h
      · exact ap827 h)
 have ap1075 : ∀ b, S1042 b → idOf (.slice (some ⟨n857, 0, none⟩) ([({ Term := x647.Term, Index := ((x647.Log.length : Int) + 1), Data := x856 } : GRec)] : List GRec).length 1) ≠ some b := fun b hj hi => (OD.after h1041 hd1040 hj).elim (fun h => by have := (OW.hb h1019) b hi; omega) (fun hs => by
      rcases hs with h | h | h | h | h
      · rw [(OW.fnone h1019 hi)] at h; cases h
      · exact (Ap.fresh0 (OW.lb hO895) (by have := lt832; omega)) (h ▸ hi)
      · exact ap1028 _ h hi
      · exact (Ap.sym (Ap.fresh (OW.lb hO895) (OW.hb h889))) _ h hi
      · exact (Ap.sym (Ap.fresh (OW.lb hO895) (OW.hb h890))) _ h hi)
 have ap1076 : idOf (.slice a1044 x1031.Net.length cap1045) ≠ some n0 := fun hj => (OW.after h1046 hd1040 hj).elim (fun h => by have := lt831; omega) (fun hs => by
      rcases hs with h | h | h | h | h
      · rw [fo886] at h; cases h
      · omega
      · exact (Ap.or0 hs1026 (Ap.or0 hs1023 (Ap.sub0 hs993 ap988) (Ap.sub0 hs994 ap988)) ap984) h
      · exact ap824 h
      · exact ap827 h)
 have ap1077 : ∀ b, idOf (.slice a1044 x1031.Net.length cap1045) = some b → idOf (.slice (some ⟨n857, 0, none⟩) ([({ Term := x647.Term, Index := ((x647.Log.length : Int) + 1), Data := x856 } : GRec)] : List GRec).length 1) ≠ some b := fun b hj hi => (OW.after h1046 hd1040 hj).elim (fun h => by have := (OW.hb h1019) b hi; omega) (fun hs => by
      rcases hs with h | h | h | h | h
      · rw [(OW.fnone h1019 hi)] at h; cases h
      · exact (Ap.fresh0 (OW.lb hO895) (by have := lt832; omega)) (h ▸ hi)
      · exact ap1028 _ h hi
      · exact (Ap.sym (Ap.fresh (OW.lb hO895) (OW.hb h889))) _ h hi
      · exact (Ap.sym (Ap.fresh (OW.lb hO895) (OW.hb h890))) _ h hi)
 have ap1078 : idOf (.slice a1047 x1031.Chosen.length cap1048) ≠ some n0 := fun hj => (OW.after h1049 hd1040 hj).elim (fun h => by have := lt831; omega) (fun hs => by
      rcases hs with h | h | h | h | h
      · rw [fo886] at h; cases h
      · omega
      · exact (Ap.or0 hs1026 (Ap.or0 hs1023 (Ap.sub0 hs993 ap988) (Ap.sub0 hs994 ap988)) ap984) h
      · exact ap824 h
      · exact ap827 h)
 have ap1079 : ∀ b, idOf (.slice a1047 x1031.Chosen.length cap1048) = some b → idOf (.slice (some ⟨n857, 0, none⟩) ([({ Term := x647.Term, Index := ((x647.Log.length : Int) + 1), Data := x856 } : GRec)] : List GRec).length 1) ≠ some b := fun b hj hi => (OW.after h1049 hd1040 hj).elim (fun h => by have := (OW.hb h1019) b hi; omega) (fun hs => by
      rcases hs with h | h | h | h | h
      · rw [(OW.fnone h1019 hi)] at h; cases h
      · exact (Ap.fresh0 (OW.lb hO895) (by have := lt832; omega)) (h ▸ hi)
      · exact ap1028 _ h hi
      · exact (Ap.sym (Ap.fresh (OW.lb hO895) (OW.hb h889))) _ h hi
      · exact (Ap.sym (Ap.fresh (OW.lb hO895) (OW.hb h890))) _ h hi)
 have hlon1032 := hS1060.lo
 have lt1080 := hS1060.lt ho1061
 have lt1081 := hS1060.lt ho1067
 refine WL.nil ?_
 with_reducible refine Ex.blk_norm ?_
 refine Ex.thn_norm ?_
 with_reducible refine W.seq ?_
 with_reducible refine W.region ?_
 refine WL.assign .nil rfl rfl rfl rfl ?_
 refine WL.nil ?_
 refine Ex.thn_norm ?_
 with_reducible refine W.ret ?_
 obtain rfl := Option.some.inj hr
 exact ⟨.inr rfl, _, (.cons (.tmp rfl) .nil), ⟨F1051, S1042, a1044, cap1045, a1047, cap1048, (hE1066.up (by omega)), hS1060, ho1067, rfl, h1068, hl1069, h1071, h1073, ap1054, ap1055, ap1056, ap1057, ap1058, ap1059⟩⟩
 }
 }
 }
 }
 {
 replace hr := ite_neg hr hc747
 with_reducible refine W.skip ?_
 with_reducible refine Ex.blk_norm ?_
 refine Ex.thn_norm ?_
 with_reducible refine W.seq ?_
 with_reducible refine W.region ?_
 refine WL.assign .nil rfl rfl rfl rfl ?_
 refine WL.nil ?_
 refine Ex.thn_norm ?_
 with_reducible refine W.ret ?_
 obtain rfl := Option.some.inj hr
 exact ⟨.inr rfl, _, (.cons (.tmp rfl) .nil), ⟨F606, S614, a7, cap8, a11, cap12, (hE608.up (by omega)), hS644, ho640, rfl, h641, rfl, h642, h643, ap620, ap622, ap625, ap623, ap626, ap627⟩⟩
 }
 }
 }
 }
 }
 }
 }
 {
 replace hr := iteB_neg hr hc630
 with_reducible refine W.seq ?_
 with_reducible refine W.region ?_
 refine WL.assign .nil rfl rfl rfl rfl ?_
 refine WL.nil ?_
 refine Ex.thn_norm ?_
 with_reducible refine W.ret ?_
 with_reducible refine Ex.blk_ret ?_
 with_reducible refine Ex.thn_ret ?_
 obtain rfl := Option.some.inj hr
 exact ⟨.inr rfl, _, (.cons (.tmp rfl) .nil), ⟨F606, S614, a7, cap8, a11, cap12, (hE608.up (by omega)), hS607, ho617, rfl, h613, rfl, h615, h616, ap620, ap622, ap625, ap623, ap626, ap627⟩⟩
 }
 }
 }
 }
theorem f_slices_Clone_bool_k {Δ : Prims} (g : Env Try.prog Δ) {lo n0 : Nat} {H0 F0 : Heap} (hS : St lo n0 H0 F0) {a2 : Option Addr} {cap3 : Nat} {xs1 : List Bool} (h4 : SrcX H0 F0 (.slice a2 xs1.length cap3) xs1) {res : List Bool} (hr : f_slices_Clone_bool xs1 = some res) :
    C Try.prog Δ n0 62 [.slice a2 xs1.length cap3] n0 H0 (fun v n H => ∃ (ra1 : Option Addr) (rcap2 : Nat), St n0 n H F0 ∧ v = .slice ra1 res.length rcap2 ∧ OW n0 n H F0 (.slice ra1 res.length rcap2) res) := by
  refine C.body Try.func62 rfl rfl ?_
  obtain ⟨hlen, hr⟩ := chk_some hr
  obtain rfl := Option.some.inj hr
  have hS0 : St n0 n0 H0 F0 := hS.low (Nat.le_refl _)
  with_reducible refine W.seq ?_
  with_reducible refine W.region ?_
  refine WL.assign .nil rfl rfl rfl rfl ?_
  refine WL.nil ?_
  refine Ex.thn_norm ?_
  with_reducible refine W.seq ?_
  with_reducible refine W.seq ?_
  with_reducible refine W.region ?_
  refine WL.move .nil rfl rfl rfl rfl ?_
  refine WL.eqNil .nil rfl rfl rfl (by decide) Try.underlying40 rfl rfl ?_
  refine WL.nil ?_
  refine Ex.thn_norm ?_
  refine W.cond rfl (fun hc => ?_) (fun hc => ?_)
  · have hnil := SrcX.isNone h4 hc
    subst hnil
    with_reducible refine W.seq ?_
    with_reducible refine W.region ?_
    refine WL.assign .nil rfl rfl rfl rfl ?_
    refine WL.nil ?_
    refine Ex.thn_norm ?_
    with_reducible refine W.ret ?_
    repeat (with_reducible refine Ex.thn_ret ?_)
    exact ⟨.inr rfl, _, resl1 rfl, none, 0, hS0, rfl, OW.nil⟩
  · with_reducible refine W.skip ?_
    refine Ex.thn_norm ?_
    with_reducible refine W.seq ?_
    with_reducible refine W.region ?_
    refine GL.lit (cs := []) (xs := ([] : List Bool)) hS0 .nil rfl rfl rfl Try.underlying40 info4 rfl rfl rfl (by decide) (by decide) rfl rfl rfl rfl rfl RA.nil rfl (fun H5 hS6 hO7 hk8 => ?_)
    refine WL.move .nil rfl rfl rfl rfl ?_
    refine GL.append (α := Bool) hS6 .nil rfl rfl rfl Try.underlying40 Try.underlying40 rfl info4 rfl rfl rfl (by decide) rfl rfl hO7 (by omega) (by omega) (h4.up (n' := n0) hS0 hk8) (by simpa using hlen) (fun a9 c10 n11 H12 hS13 hn14 hO15 hk16 hid17 => ?_)
    refine WL.assign .nil rfl rfl rfl rfl ?_
    refine WL.nil ?_
    refine Ex.thn_norm ?_
    with_reducible refine W.ret ?_
    rw [List.nil_append] at hO15
    exact ⟨.inr rfl, _, resl1 rfl, a9, c10, hS13, rfl, hO15⟩
theorem f_slices_Clone_int_k {Δ : Prims} (g : Env Try.prog Δ) {lo n0 : Nat} {H0 F0 : Heap} (hS : St lo n0 H0 F0) {a2 : Option Addr} {cap3 : Nat} {xs1 : List Int} (h4 : SrcX H0 F0 (.slice a2 xs1.length cap3) xs1) {res : List Int} (hr : f_slices_Clone_int xs1 = some res) :
    C Try.prog Δ n0 63 [.slice a2 xs1.length cap3] n0 H0 (fun v n H => ∃ (ra1 : Option Addr) (rcap2 : Nat), St n0 n H F0 ∧ v = .slice ra1 res.length rcap2 ∧ OW n0 n H F0 (.slice ra1 res.length rcap2) res) := by
  refine C.body Try.func63 rfl rfl ?_
  obtain ⟨hlen, hr⟩ := chk_some hr
  obtain rfl := Option.some.inj hr
  have hS0 : St n0 n0 H0 F0 := hS.low (Nat.le_refl _)
  with_reducible refine W.seq ?_
  with_reducible refine W.region ?_
  refine WL.assign .nil rfl rfl rfl rfl ?_
  refine WL.nil ?_
  refine Ex.thn_norm ?_
  with_reducible refine W.seq ?_
  with_reducible refine W.seq ?_
  with_reducible refine W.region ?_
  refine WL.move .nil rfl rfl rfl rfl ?_
  refine WL.eqNil .nil rfl rfl rfl (by decide) Try.underlying31 rfl rfl ?_
  refine WL.nil ?_
  refine Ex.thn_norm ?_
  refine W.cond rfl (fun hc => ?_) (fun hc => ?_)
  · have hnil := SrcX.isNone h4 hc
    subst hnil
    with_reducible refine W.seq ?_
    with_reducible refine W.region ?_
    refine WL.assign .nil rfl rfl rfl rfl ?_
    refine WL.nil ?_
    refine Ex.thn_norm ?_
    with_reducible refine W.ret ?_
    repeat (with_reducible refine Ex.thn_ret ?_)
    exact ⟨.inr rfl, _, resl1 rfl, none, 0, hS0, rfl, OW.nil⟩
  · with_reducible refine W.skip ?_
    refine Ex.thn_norm ?_
    with_reducible refine W.seq ?_
    with_reducible refine W.region ?_
    refine GL.lit (cs := []) (xs := ([] : List Int)) hS0 .nil rfl rfl rfl Try.underlying31 info3 rfl rfl rfl (by decide) (by decide) rfl rfl rfl rfl rfl RA.nil rfl (fun H5 hS6 hO7 hk8 => ?_)
    refine WL.move .nil rfl rfl rfl rfl ?_
    refine GL.append (α := Int) hS6 .nil rfl rfl rfl Try.underlying31 Try.underlying31 rfl info3 rfl rfl rfl (by decide) rfl rfl hO7 (by omega) (by omega) (h4.up (n' := n0) hS0 hk8) (by simpa using hlen) (fun a9 c10 n11 H12 hS13 hn14 hO15 hk16 hid17 => ?_)
    refine WL.assign .nil rfl rfl rfl rfl ?_
    refine WL.nil ?_
    refine Ex.thn_norm ?_
    with_reducible refine W.ret ?_
    rw [List.nil_append] at hO15
    exact ⟨.inr rfl, _, resl1 rfl, a9, c10, hS13, rfl, hO15⟩
theorem f_impl_Cluster_told_k {Δ : Prims} (g : Env Try.prog Δ) {lo n0 : Nat} {H0 F0 : Heap} (hS : St lo n0 H0 F0) {p0 : Nat} {x1 : GCluster} {ez0 : Nat} {lw0 : Nat} {a2 : Option Addr} {cap3 : Nat} {S6 : Nat → Prop} {a7 : Option Addr} {cap8 : Nat} {a11 : Option Addr} {cap12 : Nat} (ho15 : H0 p0 = some (.row ez0 [.slice a2 x1.Peers.length cap3, .slice a7 x1.Net.length cap8, .slice a11 x1.Chosen.length cap12, .bool x1.Conflict])) (fo16 : F0 p0 = none) (h4 : OD lw0 n0 H0 F0 S6 [] (.slice a2 x1.Peers.length cap3) x1.Peers) (h9 : OW lw0 n0 H0 F0 (.slice a7 x1.Net.length cap8) x1.Net) (h13 : OW lw0 n0 H0 F0 (.slice a11 x1.Chosen.length cap12) x1.Chosen) (ap18 : ¬ S6 p0) (ap19 : idOf (.slice a7 x1.Net.length cap8) ≠ some p0) (ap20 : ∀ b, idOf (.slice a7 x1.Net.length cap8) = some b → ¬ S6 b) (ap21 : idOf (.slice a11 x1.Chosen.length cap12) ≠ some p0) (ap22 : ∀ b, idOf (.slice a11 x1.Chosen.length cap12) = some b → ¬ S6 b) (ap23 : ∀ b, idOf (.slice a11 x1.Chosen.length cap12) = some b → idOf (.slice a7 x1.Net.length cap8) ≠ some b) {res : (GCluster)} (hr : f_impl_Cluster_told x1 = some res) :
    C Try.prog Δ n0 33 [.pointer (some ⟨p0, 0, none⟩)] n0 H0 (fun v n H => ∃ (F : Heap) (ra1 : Option Addr) (rcap2 : Nat) (ra4 : Option Addr) (rcap5 : Nat) (ra7 : Option Addr) (rcap8 : Nat), Ext n0 F0 n F ∧ St n0 n H F ∧ v = .agg [.slice ra1 res.Peers.length rcap2, .slice ra4 res.Net.length rcap5, .slice ra7 res.Chosen.length rcap8, .bool res.Conflict].toArray ∧ SR F (.slice ra1 res.Peers.length rcap2) res.Peers ∧ SR F (.slice ra4 res.Net.length rcap5) res.Net ∧ SR F (.slice ra7 res.Chosen.length rcap8) res.Chosen) := by
 refine C.body Try.func33 rfl rfl ?_
 unfold f_impl_Cluster_told at hr
 have hS0 : St n0 n0 H0 F0 := hS.low (Nat.le_refl _)
 have hE0 := Ext.refl n0 F0
 have hlo0 := hS0.lo
 have lt0 := hS0.lt ho15
 with_reducible refine W.seq ?_
 with_reducible refine W.region ?_
 refine GL.alloc hS0 .nil (zc := [.slice none 0 0, .slice none 0 0, .slice none 0 0, .bool false]) rfl rfl rfl info30 rfl rfl rfl (fun H24 hS25 ho26 hk27 => ?_)
 have fo28 := hS0.fnone (Nat.le_refl _)
 have ho30 := (hk27 _ (by have := lt0; omega)).trans ho15
 have h31 := OD.keep (n' := (n0 + 1)) h4 (by omega) (fun i hi => hk27 i (OD.id_lt h4 hi).2)
 have h32 := OW.keep (n' := (n0 + 1)) h9 (by omega) (fun i hi => hk27 i (OW.id_lt h9 hi).2)
 have h33 := OW.keep (n' := (n0 + 1)) h13 (by omega) (fun i hi => hk27 i (OW.id_lt h13 hi).2)
 have hlon01 := hS25.lo
 have lt29 : n0 < (n0 + 1) := by omega
 refine WL.nil ?_
 refine Ex.thn_norm ?_
 with_reducible refine W.seq ?_
 refine W.regionD [0, 1, 2, 3, 4, 5, 6, 7, 8, 9, 10, 11] [false, false, false, false, false, false, false, false, false, false, false, true] rfl rfl (by kernel_rfl) (by kernel_rfl) (by (conv => lhs; simp only [List.map_cons, List.map_nil, List.getD_cons_zero, List.getD_cons_succ]) <;> rfl) ?_
 refine WL.move .r rfl rfl rfl rfl ?_
 refine WL.nilCheck .r rfl rfl rfl rfl ?_
 refine WL.fieldAddr .r rfl rfl rfl Try.underlying30 rfl info28 rfl rfl ?_
 refine WL.load1 .r rfl rfl rfl Try.underlying28 rfl rfl ho30 rfl ?_
 obtain ⟨x34, hx34, hr⟩ := bnd_some hr
 refine GL.callP g.good .r rfl rfl rfl rfl rfl rfl Try.func61 rfl rfl (Nat.le_refl _) (f_impl_copyRecs_own0_k  g hS25 h33 hx34) (fun v n35 H36 hn37 hk38 hp39 => ?_)
 obtain ⟨F44, a40, cap41, hX45, hS43, rfl, h42⟩ := hp39
 have ho46 := (hk38 _ (by have := lt0; omega)).trans ho30
 have ho47 := (hk38 _ (by have := lt29; omega)).trans ho26
 have h48 := OD.keep (n' := n35) h31 (by omega) (fun i hi => hk38 i (OD.id_lt h31 hi).2)
 have h49 := OW.keep (n' := n35) h32 (by omega) (fun i hi => hk38 i (OW.id_lt h32 hi).2)
 have h50 := OW.keep (n' := n35) h33 (by omega) (fun i hi => hk38 i (OW.id_lt h33 hi).2)
 have hS51 : St n0 n35 H36 F44 := ⟨by have := hS25.lo; omega, hS43.hb, hS43.fh⟩
 have fo52 := (hX45.eq _ (by have := lt0; omega)).trans fo16
 have fo53 := (hX45.eq _ (by have := lt29; omega)).trans fo28
 have h54 := OD.keepF h48 hX45.sub (fun i hi => (hX45.eq i (by have := OD.id_lt h31 hi; omega)).trans (OD.fnone h48 hi))
 have h55 := OW.keepF h49 hX45.sub (fun i hi => (hX45.eq i (by have := OW.id_lt h32 hi; omega)).trans (OW.fnone h49 hi))
 have h56 := OW.keepF h50 hX45.sub (fun i hi => (hX45.eq i (by have := OW.id_lt h33 hi; omega)).trans (OW.fnone h50 hi))
 have hE57 := (hE0.up (n' := (n0 + 1)) (by omega)).trans hX45
 have hlon35 := hS51.lo
 have h58 := OW.lower (lo' := n0) h42 (by omega)
 refine WL.move .r rfl rfl rfl rfl ?_
 refine WL.nilCheck .r rfl rfl rfl rfl ?_
 refine WL.fieldAddr .r rfl rfl rfl Try.underlying30 rfl info4 rfl rfl ?_
 refine WL.load1 .r rfl rfl rfl Try.underlying4 rfl rfl ho46 rfl ?_
 refine WL.buildL .r (cells := [.slice none 0 0, .slice none 0 0, .slice a40 x34.length cap41, .bool x1.Conflict]) rfl rfl rfl Try.underlying30 info30 rfl rfl rfl (by simp only [List.mapM_cons, List.mapM_nil, info26, info27, info28, info4]; rfl) rfl (by first | rfl | ((conv => lhs; simp [splice, fillL, cells_int, cells_bool, cells_string, cells_str, cells_slice, cells_ptr, cells_map, cells_func, cells_nilFunc, cells_nilIface, cells_iface, cells_agg, cells_u8]) <;> rfl)) ?_
 refine GL.alloc hS51 .r (zc := [.slice none 0 0, .slice none 0 0, .slice none 0 0, .bool false]) rfl rfl rfl info30 rfl rfl rfl (fun H65 hS66 ho67 hk68 => ?_)
 have fo69 := hS51.fnone (Nat.le_refl _)
 have ho71 := (hk68 _ (by have := lt0; omega)).trans ho46
 have ho72 := (hk68 _ (by have := lt29; omega)).trans ho47
 have h73 := OD.keep (n' := (n35 + 1)) h54 (by omega) (fun i hi => hk68 i (OD.id_lt h54 hi).2)
 have h74 := OW.keep (n' := (n35 + 1)) h55 (by omega) (fun i hi => hk68 i (OW.id_lt h55 hi).2)
 have h75 := OW.keep (n' := (n35 + 1)) h56 (by omega) (fun i hi => hk68 i (OW.id_lt h56 hi).2)
 have h76 := OW.keep (n' := (n35 + 1)) h58 (by omega) (fun i hi => hk68 i (OW.id_lt h58 hi).2)
 have hlon351 := hS66.lo
 have lt70 : n35 < (n35 + 1) := by omega
 refine GL.store hS66 .w (vc := [.slice none 0 0, .slice none 0 0, .slice a40 x34.length cap41, .bool x1.Conflict]) (c' := [.slice none 0 0, .slice none 0 0, .slice a40 x34.length cap41, .bool x1.Conflict]) rfl rfl rfl info30 rfl rfl rfl rfl ho67 fo69 (Nat.le_of_ble_eq_true rfl) (by omega) (by repeat' (first | exact List.forall_mem_nil _ | refine List.forall_mem_cons.2 ⟨?_, ?_⟩ | rfl)) rfl (fun H77 hS78 ho79 hk80 => ?_)
 have ho81 := (hk80 _ (by omega)).trans ho71
 have ho82 := (hk80 _ (by omega)).trans ho72
 have h83 := OD.keep h73 (Nat.le_refl _) (fun i hi => hk80 i (fun hj => (Ap.alloc (OD.hb h54)) (hj ▸ hi)))
 have h84 := OW.keep h74 (Nat.le_refl _) (fun i hi => hk80 i (fun hj => (Ap.alloc (OW.hb h55)) (hj ▸ hi)))
 have h85 := OW.keep h75 (Nat.le_refl _) (fun i hi => hk80 i (fun hj => (Ap.alloc (OW.hb h56)) (hj ▸ hi)))
 have h86 := OW.keep h76 (Nat.le_refl _) (fun i hi => hk80 i (fun hj => (Ap.alloc (OW.hb h58)) (hj ▸ hi)))
 refine WL.nil ?_
 refine Ex.thn_norm ?_
 with_reducible refine W.seq ?_
 with_reducible refine W.seq ?_
 with_reducible refine W.region ?_
 refine WL.move .nil rfl rfl rfl rfl ?_
 refine WL.nilCheck .nil rfl rfl rfl rfl ?_
 refine WL.fieldAddr .nil rfl rfl rfl Try.underlying30 rfl info26 rfl rfl ?_
 refine WL.load1 .nil rfl rfl rfl Try.underlying26 rfl rfl ho81 rfl ?_
 refine WL.len .nil rfl rfl rfl Try.underlying26 rfl ?_
 refine WL.move .nil rfl rfl rfl rfl ?_
 refine WL.nil ?_
 refine Ex.thn_norm ?_
 with_reducible refine W.block ?_
 refine W.loopF (fun k0 fr n H => ∃ (S5623 : Nat → Prop) (x5624 : Int) (a5627 : Option Addr) (cap5628 : Nat) (xs5629 : (List GPeer)) (F : Heap), fr = [(0, .pointer (some ⟨p0, 0, none⟩)), (2, .pointer (some ⟨n0, 0, none⟩)), (3, .pointer (some ⟨n35, 0, none⟩)), (21, .slice a2 x1.Peers.length cap3), (22, .int .i64 (x1.Peers.length : Int)), (23, .int .i64 x5624)] ∧ St n0 n H F ∧ Ext n0 F0 n F ∧ H n0 = some (.row 1 [.slice none 0 0, .slice none 0 0, .slice none 0 0, .bool false]) ∧ F n0 = none ∧ H n35 = some (.row 1 [.slice a5627 xs5629.length cap5628, .slice none 0 0, .slice a40 x34.length cap41, .bool x1.Conflict]) ∧ F n35 = none ∧ H p0 = some (.row ez0 [.slice a2 x1.Peers.length cap3, .slice a7 x1.Net.length cap8, .slice a11 x1.Chosen.length cap12, .bool x1.Conflict]) ∧ F p0 = none ∧ OD lw0 n H F S5623 [] (.slice a2 x1.Peers.length cap3) x1.Peers ∧ OW n0 n H F (.slice a5627 xs5629.length cap5628) xs5629 ∧ OW n0 n H F (.slice a40 x34.length cap41) x34 ∧ OW lw0 n H F (.slice a7 x1.Net.length cap8) x1.Net ∧ OW lw0 n H F (.slice a11 x1.Chosen.length cap12) x1.Chosen ∧ ¬ S5623 n0 ∧ ¬ S5623 n35 ∧ ¬ S5623 p0 ∧ idOf (.slice a5627 xs5629.length cap5628) ≠ some n0 ∧ idOf (.slice a5627 xs5629.length cap5628) ≠ some n35 ∧ idOf (.slice a5627 xs5629.length cap5628) ≠ some p0 ∧ (∀ b, idOf (.slice a5627 xs5629.length cap5628) = some b → ¬ S5623 b) ∧ idOf (.slice a40 x34.length cap41) ≠ some n0 ∧ idOf (.slice a40 x34.length cap41) ≠ some n35 ∧ idOf (.slice a40 x34.length cap41) ≠ some p0 ∧ (∀ b, idOf (.slice a40 x34.length cap41) = some b → ¬ S5623 b) ∧ (∀ b, idOf (.slice a40 x34.length cap41) = some b → idOf (.slice a5627 xs5629.length cap5628) ≠ some b) ∧ idOf (.slice a7 x1.Net.length cap8) ≠ some n0 ∧ idOf (.slice a7 x1.Net.length cap8) ≠ some n35 ∧ idOf (.slice a7 x1.Net.length cap8) ≠ some p0 ∧ (∀ b, idOf (.slice a7 x1.Net.length cap8) = some b → ¬ S5623 b) ∧ (∀ b, idOf (.slice a7 x1.Net.length cap8) = some b → idOf (.slice a5627 xs5629.length cap5628) ≠ some b) ∧ (∀ b, idOf (.slice a7 x1.Net.length cap8) = some b → idOf (.slice a40 x34.length cap41) ≠ some b) ∧ idOf (.slice a11 x1.Chosen.length cap12) ≠ some n0 ∧ idOf (.slice a11 x1.Chosen.length cap12) ≠ some n35 ∧ idOf (.slice a11 x1.Chosen.length cap12) ≠ some p0 ∧ (∀ b, idOf (.slice a11 x1.Chosen.length cap12) = some b → ¬ S5623 b) ∧ (∀ b, idOf (.slice a11 x1.Chosen.length cap12) = some b → idOf (.slice a5627 xs5629.length cap5628) ≠ some b) ∧ (∀ b, idOf (.slice a11 x1.Chosen.length cap12) = some b → idOf (.slice a40 x34.length cap41) ≠ some b) ∧ (∀ b, idOf (.slice a11 x1.Chosen.length cap12) = some b → idOf (.slice a7 x1.Net.length cap8) ≠ some b) ∧ f_impl_Cluster_told_L0 x1 x34 k0 x5624 xs5629 = some res) BIG (fr0 := [(0, .pointer (some ⟨p0, 0, none⟩)), (2, .pointer (some ⟨n0, 0, none⟩)), (3, .pointer (some ⟨n35, 0, none⟩)), (21, .slice a2 x1.Peers.length cap3), (22, .int .i64 (x1.Peers.length : Int)), (23, .int .i64 0)]) (Fr.le_cons rfl (Fr.le_cons rfl (Fr.le_cons rfl (Fr.le_cons rfl (Fr.le_cons rfl (Fr.le_cons rfl Fr.le_nil)))))) ?_ ?_ ?_
 {
 exact ⟨S6, 0, none, 0, [], F44, rfl, hS78, (hE57.up (by omega)), ho82, fo53, ho79, fo69, ho81, fo52, h83, OW.nil, h86, h84, h85, (Ap.alloc (OD.hb h4)), (Ap.alloc (OD.hb h54)), ap18, (fun h => by cases h), (fun h => by cases h), (fun h => by cases h), (fun b h => by cases h), (Ap.fresh0 (OW.lb h42) (by have := lt29; omega)), (Ap.alloc (OW.hb h58)), (Ap.fresh0 (OW.lb h42) (by have := lt0; omega)), (Ap.fresh (OW.lb h42) (OD.hb h31)), (fun b _ h => by cases h), (Ap.alloc (OW.hb h9)), (Ap.alloc (OW.hb h55)), ap19, ap20, (fun b _ h => by cases h), (Ap.sym (Ap.fresh (OW.lb h42) (OW.hb h32))), (Ap.alloc (OW.hb h13)), (Ap.alloc (OW.hb h56)), ap21, ap22, (fun b _ h => by cases h), (Ap.sym (Ap.fresh (OW.lb h42) (OW.hb h33))), ap23, hr⟩
 }
 {
 intro fr n H hI
 obtain ⟨S5623, x5624, a5627, cap5628, xs5629, F5619, hfr, hS5620, hE5621, ho5625, fo5626, ho5633, fo5634, ho5637, fo5638, h5622, h5630, h5632, h5635, h5636, ap5639, ap5640, ap5641, ap5642, ap5643, ap5644, ap5645, ap5646, ap5647, ap5648, ap5649, ap5650, ap5651, ap5652, ap5653, ap5654, ap5655, ap5656, ap5657, ap5658, ap5659, ap5660, ap5661, ap5662, ap5663, hr⟩ := hI
 rw [f_impl_Cluster_told_L0] at hr
 cases hr
 }
 {
 intro k0 _ n5617 H5618 hI
 obtain ⟨S5623, x5624, a5627, cap5628, xs5629, F5619, rfl, hS5620, hE5621, ho5625, fo5626, ho5633, fo5634, ho5637, fo5638, h5622, h5630, h5632, h5635, h5636, ap5639, ap5640, ap5641, ap5642, ap5643, ap5644, ap5645, ap5646, ap5647, ap5648, ap5649, ap5650, ap5651, ap5652, ap5653, ap5654, ap5655, ap5656, ap5657, ap5658, ap5659, ap5660, ap5661, ap5662, ap5663, hr⟩ := hI
 have lt5664 := hS5620.lt ho5625
 have lt5665 := hS5620.lt ho5633
 have lt5666 := hS5620.lt ho5637
 have hlen5617 := hE5621.le
 have hlon5617 := hS5620.lo
 rw [f_impl_Cluster_told_L0] at hr
 with_reducible refine W.seq ?_
 with_reducible refine W.region ?_
 refine WL.bin .nil rfl rfl rfl rfl rfl rfl ?_
 refine WL.nil ?_
 refine Ex.thn_norm ?_
 with_reducible refine W.seq ?_
 refine W.condD rfl (fun hc5668 => ?_) (fun hc5668 => ?_)
 {
 replace hr := ite_pos hr hc5668
 with_reducible refine W.skip ?_
 refine Ex.thn_norm ?_
 with_reducible refine W.seq ?_
 with_reducible refine W.block ?_
 with_reducible refine W.seq ?_
 with_reducible refine W.region ?_
 obtain ⟨x6182, hx6182, hr⟩ := bnd_some hr
 refine GL.indexD .nil rfl rfl rfl Try.underlying26 info42 rfl rfl h5622 rfl hx6182 (fun b6183 el6184 hp6185 => ?_)
 obtain ⟨c6186, ecs6187, hrow6188, hwin6189, hb6190⟩ := OD.get h5622 hp6185 hx6182
 obtain ⟨a6191, cap6192, a6193, cap6194, a6195, cap6196, a6197, cap6198, rfl⟩ := GPeer.ofB hb6190
 obtain ⟨S6199, hs6200, hs6201, hs6202, h6203, h6204⟩ := GPeer.open_Log h5622 hp6185 hx6182 hrow6188 hwin6189 (List.forall_mem_nil _)
 obtain ⟨S6206, hs6207, hs6208, hs6209, h6210, h6211⟩ := GPeer.open_Votes h6204 hp6185 hx6182 hrow6188 hwin6189 (List.forall_mem_cons.2 ⟨fun h => absurd (show (5 : Nat) = 6 from h.2) (by decide), List.forall_mem_nil _⟩)
 obtain ⟨S6213, hs6214, hs6215, hs6216, h6217, h6218⟩ := GPeer.open_Next h6211 hp6185 hx6182 hrow6188 hwin6189 (List.forall_mem_cons.2 ⟨fun h => absurd (show (6 : Nat) = 7 from h.2) (by decide), List.forall_mem_cons.2 ⟨fun h => absurd (show (5 : Nat) = 7 from h.2) (by decide), List.forall_mem_nil _⟩⟩)
 obtain ⟨S6220, hs6221, hs6222, hs6223, h6224, h6225⟩ := GPeer.open_Match h6218 hp6185 hx6182 hrow6188 hwin6189 (List.forall_mem_cons.2 ⟨fun h => absurd (show (7 : Nat) = 8 from h.2) (by decide), List.forall_mem_cons.2 ⟨fun h => absurd (show (6 : Nat) = 8 from h.2) (by decide), List.forall_mem_cons.2 ⟨fun h => absurd (show (5 : Nat) = 8 from h.2) (by decide), List.forall_mem_nil _⟩⟩⟩)
 refine WL.loadN .nil (l' := [.bool x6182.Up, .int .i64 x6182.Term, .int .i64 x6182.Vote, .int .i64 x6182.Commit, .int .i64 x6182.Role, .slice a6191 x6182.Log.length cap6192, .slice a6193 x6182.Votes.length cap6194, .slice a6195 x6182.Next.length cap6196, .slice a6197 x6182.Match.length cap6198]) rfl rfl rfl Try.underlying42 rfl info42 rfl hrow6188 hwin6189 rfl ?_
 refine GL.alloc hS5620 .nil (zc := [.bool false, .int .i64 0, .int .i64 0, .int .i64 0, .int .i64 0, .slice none 0 0, .slice none 0 0, .slice none 0 0, .slice none 0 0]) rfl rfl rfl info42 rfl rfl rfl (fun H6227 hS6228 ho6229 hk6230 => ?_)
 have fo6231 := hS5620.fnone (Nat.le_refl _)
 have ho6233 := (hk6230 _ (by have := lt5664; omega)).trans ho5625
 have ho6234 := (hk6230 _ (by have := lt5665; omega)).trans ho5633
 have ho6235 := (hk6230 _ (by have := lt5666; omega)).trans ho5637
 have h6236 := OD.keep (n' := (n5617 + 1)) h6225 (by omega) (fun i hi => hk6230 i (OD.id_lt h6225 hi).2)
 have h6237 := OW.keep (n' := (n5617 + 1)) h5630 (by omega) (fun i hi => hk6230 i (OW.id_lt h5630 hi).2)
 have h6238 := OW.keep (n' := (n5617 + 1)) h5632 (by omega) (fun i hi => hk6230 i (OW.id_lt h5632 hi).2)
 have h6239 := OW.keep (n' := (n5617 + 1)) h5635 (by omega) (fun i hi => hk6230 i (OW.id_lt h5635 hi).2)
 have h6240 := OW.keep (n' := (n5617 + 1)) h5636 (by omega) (fun i hi => hk6230 i (OW.id_lt h5636 hi).2)
 have h6241 := OW.keep (n' := (n5617 + 1)) h6203 (by omega) (fun i hi => hk6230 i (OW.id_lt h6203 hi).2)
 have h6242 := OW.keep (n' := (n5617 + 1)) h6210 (by omega) (fun i hi => hk6230 i (OW.id_lt h6210 hi).2)
 have h6243 := OW.keep (n' := (n5617 + 1)) h6217 (by omega) (fun i hi => hk6230 i (OW.id_lt h6217 hi).2)
 have h6244 := OW.keep (n' := (n5617 + 1)) h6224 (by omega) (fun i hi => hk6230 i (OW.id_lt h6224 hi).2)
 have hlon56171 := hS6228.lo
 have lt6232 : n5617 < (n5617 + 1) := by omega
 refine GL.store hS6228 .nil (vc := [.bool x6182.Up, .int .i64 x6182.Term, .int .i64 x6182.Vote, .int .i64 x6182.Commit, .int .i64 x6182.Role, .slice a6191 x6182.Log.length cap6192, .slice a6193 x6182.Votes.length cap6194, .slice a6195 x6182.Next.length cap6196, .slice a6197 x6182.Match.length cap6198]) (c' := [.bool x6182.Up, .int .i64 x6182.Term, .int .i64 x6182.Vote, .int .i64 x6182.Commit, .int .i64 x6182.Role, .slice a6191 x6182.Log.length cap6192, .slice a6193 x6182.Votes.length cap6194, .slice a6195 x6182.Next.length cap6196, .slice a6197 x6182.Match.length cap6198]) rfl rfl rfl info42 rfl rfl rfl rfl ho6229 fo6231 (Nat.le_of_ble_eq_true rfl) (by omega) (by repeat' (first | exact List.forall_mem_nil _ | refine List.forall_mem_cons.2 ⟨?_, ?_⟩ | rfl)) rfl (fun H6245 hS6246 ho6247 hk6248 => ?_)
 have ho6249 := (hk6248 _ (by omega)).trans ho6233
 have ho6250 := (hk6248 _ (by omega)).trans ho6234
 have ho6251 := (hk6248 _ (by omega)).trans ho6235
 have h6252 := OD.keep h6236 (Nat.le_refl _) (fun i hi => hk6248 i (fun hj => (Ap.alloc (OD.hb h6225)) (hj ▸ hi)))
 have h6253 := OW.keep h6237 (Nat.le_refl _) (fun i hi => hk6248 i (fun hj => (Ap.alloc (OW.hb h5630)) (hj ▸ hi)))
 have h6254 := OW.keep h6238 (Nat.le_refl _) (fun i hi => hk6248 i (fun hj => (Ap.alloc (OW.hb h5632)) (hj ▸ hi)))
 have h6255 := OW.keep h6239 (Nat.le_refl _) (fun i hi => hk6248 i (fun hj => (Ap.alloc (OW.hb h5635)) (hj ▸ hi)))
 have h6256 := OW.keep h6240 (Nat.le_refl _) (fun i hi => hk6248 i (fun hj => (Ap.alloc (OW.hb h5636)) (hj ▸ hi)))
 have h6257 := OW.keep h6241 (Nat.le_refl _) (fun i hi => hk6248 i (fun hj => (Ap.alloc (OW.hb h6203)) (hj ▸ hi)))
 have h6258 := OW.keep h6242 (Nat.le_refl _) (fun i hi => hk6248 i (fun hj => (Ap.alloc (OW.hb h6210)) (hj ▸ hi)))
 have h6259 := OW.keep h6243 (Nat.le_refl _) (fun i hi => hk6248 i (fun hj => (Ap.alloc (OW.hb h6217)) (hj ▸ hi)))
 have h6260 := OW.keep h6244 (Nat.le_refl _) (fun i hi => hk6248 i (fun hj => (Ap.alloc (OW.hb h6224)) (hj ▸ hi)))
 refine WL.nil ?_
 refine Ex.thn_norm ?_
 with_reducible refine W.seq ?_
 refine W.regionD [0, 1, 2, 3, 4, 5, 6, 7, 8, 9, 10, 11, 12, 13, 14, 15, 16, 17, 18, 19] [false, false, false, false, false, false, false, false, false, false, false, false, false, true, false, true, false, true, false, true] rfl rfl (by kernel_rfl) (by kernel_rfl) (by (conv => lhs; simp only [List.map_cons, List.map_nil, List.getD_cons_zero, List.getD_cons_succ]) <;> rfl) ?_
 refine WL.fieldAddr .r rfl rfl rfl Try.underlying42 rfl info28 rfl rfl ?_
 refine WL.load1 .r rfl rfl rfl Try.underlying28 rfl rfl ho6247 rfl ?_
 obtain ⟨x6261, hx6261, hr⟩ := bnd_some hr
 refine GL.callP g.good .r rfl rfl rfl rfl rfl rfl Try.func61 rfl rfl (Nat.le_refl _) (f_impl_copyRecs_own0_k  g hS6246 h6257 hx6261) (fun v n6262 H6263 hn6264 hk6265 hp6266 => ?_)
 obtain ⟨F6271, a6267, cap6268, hX6272, hS6270, rfl, h6269⟩ := hp6266
 have ho6273 := (hk6265 _ (by have := lt5664; omega)).trans ho6249
 have ho6274 := (hk6265 _ (by have := lt5665; omega)).trans ho6250
 have ho6275 := (hk6265 _ (by have := lt5666; omega)).trans ho6251
 have ho6276 := (hk6265 _ (by have := lt6232; omega)).trans ho6247
 have h6277 := OD.keep (n' := n6262) h6252 (by omega) (fun i hi => hk6265 i (OD.id_lt h6252 hi).2)
 have h6278 := OW.keep (n' := n6262) h6253 (by omega) (fun i hi => hk6265 i (OW.id_lt h6253 hi).2)
 have h6279 := OW.keep (n' := n6262) h6254 (by omega) (fun i hi => hk6265 i (OW.id_lt h6254 hi).2)
 have h6280 := OW.keep (n' := n6262) h6255 (by omega) (fun i hi => hk6265 i (OW.id_lt h6255 hi).2)
 have h6281 := OW.keep (n' := n6262) h6256 (by omega) (fun i hi => hk6265 i (OW.id_lt h6256 hi).2)
 have h6282 := OW.keep (n' := n6262) h6257 (by omega) (fun i hi => hk6265 i (OW.id_lt h6257 hi).2)
 have h6283 := OW.keep (n' := n6262) h6258 (by omega) (fun i hi => hk6265 i (OW.id_lt h6258 hi).2)
 have h6284 := OW.keep (n' := n6262) h6259 (by omega) (fun i hi => hk6265 i (OW.id_lt h6259 hi).2)
 have h6285 := OW.keep (n' := n6262) h6260 (by omega) (fun i hi => hk6265 i (OW.id_lt h6260 hi).2)
 have hS6286 : St n0 n6262 H6263 F6271 := ⟨by have := hS6246.lo; omega, hS6270.hb, hS6270.fh⟩
 have fo6287 := (hX6272.eq _ (by have := lt5664; omega)).trans fo5626
 have fo6288 := (hX6272.eq _ (by have := lt5665; omega)).trans fo5634
 have fo6289 := (hX6272.eq _ (by have := lt5666; omega)).trans fo5638
 have fo6290 := (hX6272.eq _ (by have := lt6232; omega)).trans fo6231
 have h6291 := OD.keepF h6277 hX6272.sub (fun i hi => (hX6272.eq i (by have := OD.id_lt h6252 hi; omega)).trans (OD.fnone h6277 hi))
 have h6292 := OW.keepF h6278 hX6272.sub (fun i hi => (hX6272.eq i (by have := OW.id_lt h6253 hi; omega)).trans (OW.fnone h6278 hi))
 have h6293 := OW.keepF h6279 hX6272.sub (fun i hi => (hX6272.eq i (by have := OW.id_lt h6254 hi; omega)).trans (OW.fnone h6279 hi))
 have h6294 := OW.keepF h6280 hX6272.sub (fun i hi => (hX6272.eq i (by have := OW.id_lt h6255 hi; omega)).trans (OW.fnone h6280 hi))
 have h6295 := OW.keepF h6281 hX6272.sub (fun i hi => (hX6272.eq i (by have := OW.id_lt h6256 hi; omega)).trans (OW.fnone h6281 hi))
 have h6296 := OW.keepF h6282 hX6272.sub (fun i hi => (hX6272.eq i (by have := OW.id_lt h6257 hi; omega)).trans (OW.fnone h6282 hi))
 have h6297 := OW.keepF h6283 hX6272.sub (fun i hi => (hX6272.eq i (by have := OW.id_lt h6258 hi; omega)).trans (OW.fnone h6283 hi))
 have h6298 := OW.keepF h6284 hX6272.sub (fun i hi => (hX6272.eq i (by have := OW.id_lt h6259 hi; omega)).trans (OW.fnone h6284 hi))
 have h6299 := OW.keepF h6285 hX6272.sub (fun i hi => (hX6272.eq i (by have := OW.id_lt h6260 hi; omega)).trans (OW.fnone h6285 hi))
 have hE6300 := (hE5621.up (n' := (n5617 + 1)) (by omega)).trans hX6272
 have hlon6262 := hS6286.lo
 have h6301 := OW.lower (lo' := n0) h6269 (by omega)
 refine WL.fieldAddr .r rfl rfl rfl Try.underlying42 rfl info40 rfl rfl ?_
 refine WL.load1 .r rfl rfl rfl Try.underlying40 rfl rfl ho6276 rfl ?_
 obtain ⟨x6316, hx6316, hr⟩ := bnd_some hr
 refine GL.callP g.good .r rfl rfl rfl rfl rfl rfl Try.func62 rfl rfl (Nat.le_refl _) (f_slices_Clone_bool_k  g hS6286 (OW.src h6297) hx6316) (fun v n6317 H6318 hn6319 hk6320 hp6321 => ?_)
 obtain ⟨a6322, cap6323, hS6325, rfl, h6324⟩ := hp6321
 have ho6326 := (hk6320 _ (by have := lt5664; omega)).trans ho6273
 have ho6327 := (hk6320 _ (by have := lt5665; omega)).trans ho6274
 have ho6328 := (hk6320 _ (by have := lt5666; omega)).trans ho6275
 have ho6329 := (hk6320 _ (by have := lt6232; omega)).trans ho6276
 have h6330 := OD.keep (n' := n6317) h6291 (by omega) (fun i hi => hk6320 i (OD.id_lt h6291 hi).2)
 have h6331 := OW.keep (n' := n6317) h6292 (by omega) (fun i hi => hk6320 i (OW.id_lt h6292 hi).2)
 have h6332 := OW.keep (n' := n6317) h6293 (by omega) (fun i hi => hk6320 i (OW.id_lt h6293 hi).2)
 have h6333 := OW.keep (n' := n6317) h6294 (by omega) (fun i hi => hk6320 i (OW.id_lt h6294 hi).2)
 have h6334 := OW.keep (n' := n6317) h6295 (by omega) (fun i hi => hk6320 i (OW.id_lt h6295 hi).2)
 have h6335 := OW.keep (n' := n6317) h6296 (by omega) (fun i hi => hk6320 i (OW.id_lt h6296 hi).2)
 have h6336 := OW.keep (n' := n6317) h6297 (by omega) (fun i hi => hk6320 i (OW.id_lt h6297 hi).2)
 have h6337 := OW.keep (n' := n6317) h6298 (by omega) (fun i hi => hk6320 i (OW.id_lt h6298 hi).2)
 have h6338 := OW.keep (n' := n6317) h6299 (by omega) (fun i hi => hk6320 i (OW.id_lt h6299 hi).2)
 have h6339 := OW.keep (n' := n6317) h6301 (by omega) (fun i hi => hk6320 i (OW.id_lt h6301 hi).2)
 have hS6340 : St n0 n6317 H6318 F6271 := ⟨by have := hS6286.lo; omega, hS6325.hb, hS6325.fh⟩
 have hlon6317 := hS6340.lo
 have h6341 := OW.lower (lo' := n0) h6324 (by omega)
 refine WL.fieldAddr .r rfl rfl rfl Try.underlying42 rfl info31 rfl rfl ?_
 refine WL.load1 .r rfl rfl rfl Try.underlying31 rfl rfl ho6329 rfl ?_
 obtain ⟨x6357, hx6357, hr⟩ := bnd_some hr
 refine GL.callP g.good .r rfl rfl rfl rfl rfl rfl Try.func63 rfl rfl (Nat.le_refl _) (f_slices_Clone_int_k  g hS6340 (OW.src h6337) hx6357) (fun v n6358 H6359 hn6360 hk6361 hp6362 => ?_)
 obtain ⟨a6363, cap6364, hS6366, rfl, h6365⟩ := hp6362
 have ho6367 := (hk6361 _ (by have := lt5664; omega)).trans ho6326
 have ho6368 := (hk6361 _ (by have := lt5665; omega)).trans ho6327
 have ho6369 := (hk6361 _ (by have := lt5666; omega)).trans ho6328
 have ho6370 := (hk6361 _ (by have := lt6232; omega)).trans ho6329
 have h6371 := OD.keep (n' := n6358) h6330 (by omega) (fun i hi => hk6361 i (OD.id_lt h6330 hi).2)
 have h6372 := OW.keep (n' := n6358) h6331 (by omega) (fun i hi => hk6361 i (OW.id_lt h6331 hi).2)
 have h6373 := OW.keep (n' := n6358) h6332 (by omega) (fun i hi => hk6361 i (OW.id_lt h6332 hi).2)
 have h6374 := OW.keep (n' := n6358) h6333 (by omega) (fun i hi => hk6361 i (OW.id_lt h6333 hi).2)
 have h6375 := OW.keep (n' := n6358) h6334 (by omega) (fun i hi => hk6361 i (OW.id_lt h6334 hi).2)
 have h6376 := OW.keep (n' := n6358) h6335 (by omega) (fun i hi => hk6361 i (OW.id_lt h6335 hi).2)
 have h6377 := OW.keep (n' := n6358) h6336 (by omega) (fun i hi => hk6361 i (OW.id_lt h6336 hi).2)
 have h6378 := OW.keep (n' := n6358) h6337 (by omega) (fun i hi => hk6361 i (OW.id_lt h6337 hi).2)
 have h6379 := OW.keep (n' := n6358) h6338 (by omega) (fun i hi => hk6361 i (OW.id_lt h6338 hi).2)
 have h6380 := OW.keep (n' := n6358) h6339 (by omega) (fun i hi => hk6361 i (OW.id_lt h6339 hi).2)
 have h6381 := OW.keep (n' := n6358) h6341 (by omega) (fun i hi => hk6361 i (OW.id_lt h6341 hi).2)
 have hS6382 : St n0 n6358 H6359 F6271 := ⟨by have := hS6340.lo; omega, hS6366.hb, hS6366.fh⟩
 have hlon6358 := hS6382.lo
 have h6383 := OW.lower (lo' := n0) h6365 (by omega)
 refine WL.fieldAddr .r rfl rfl rfl Try.underlying42 rfl info31 rfl rfl ?_
 refine WL.load1 .r rfl rfl rfl Try.underlying31 rfl rfl ho6370 rfl ?_
 obtain ⟨x6400, hx6400, hr⟩ := bnd_some hr
 refine GL.callP g.good .r rfl rfl rfl rfl rfl rfl Try.func63 rfl rfl (Nat.le_refl _) (f_slices_Clone_int_k  g hS6382 (OW.src h6379) hx6400) (fun v n6401 H6402 hn6403 hk6404 hp6405 => ?_)
 obtain ⟨a6406, cap6407, hS6409, rfl, h6408⟩ := hp6405
 have ho6410 := (hk6404 _ (by have := lt5664; omega)).trans ho6367
 have ho6411 := (hk6404 _ (by have := lt5665; omega)).trans ho6368
 have ho6412 := (hk6404 _ (by have := lt5666; omega)).trans ho6369
 have ho6413 := (hk6404 _ (by have := lt6232; omega)).trans ho6370
 have h6414 := OD.keep (n' := n6401) h6371 (by omega) (fun i hi => hk6404 i (OD.id_lt h6371 hi).2)
 have h6415 := OW.keep (n' := n6401) h6372 (by omega) (fun i hi => hk6404 i (OW.id_lt h6372 hi).2)
 have h6416 := OW.keep (n' := n6401) h6373 (by omega) (fun i hi => hk6404 i (OW.id_lt h6373 hi).2)
 have h6417 := OW.keep (n' := n6401) h6374 (by omega) (fun i hi => hk6404 i (OW.id_lt h6374 hi).2)
 have h6418 := OW.keep (n' := n6401) h6375 (by omega) (fun i hi => hk6404 i (OW.id_lt h6375 hi).2)
 have h6419 := OW.keep (n' := n6401) h6376 (by omega) (fun i hi => hk6404 i (OW.id_lt h6376 hi).2)
 have h6420 := OW.keep (n' := n6401) h6377 (by omega) (fun i hi => hk6404 i (OW.id_lt h6377 hi).2)
 have h6421 := OW.keep (n' := n6401) h6378 (by omega) (fun i hi => hk6404 i (OW.id_lt h6378 hi).2)
 have h6422 := OW.keep (n' := n6401) h6379 (by omega) (fun i hi => hk6404 i (OW.id_lt h6379 hi).2)
 have h6423 := OW.keep (n' := n6401) h6380 (by omega) (fun i hi => hk6404 i (OW.id_lt h6380 hi).2)
 have h6424 := OW.keep (n' := n6401) h6381 (by omega) (fun i hi => hk6404 i (OW.id_lt h6381 hi).2)
 have h6425 := OW.keep (n' := n6401) h6383 (by omega) (fun i hi => hk6404 i (OW.id_lt h6383 hi).2)
 have hS6426 : St n0 n6401 H6402 F6271 := ⟨by have := hS6382.lo; omega, hS6409.hb, hS6409.fh⟩
 have hlon6401 := hS6426.lo
 have h6427 := OW.lower (lo' := n0) h6408 (by omega)
 refine WL.fieldAddr .r rfl rfl rfl Try.underlying42 rfl info28 rfl rfl ?_
 refine GL.store hS6426 .w (vc := [.slice a6267 x6261.length cap6268]) (c' := [.bool x6182.Up, .int .i64 x6182.Term, .int .i64 x6182.Vote, .int .i64 x6182.Commit, .int .i64 x6182.Role, .slice a6267 x6261.length cap6268, .slice a6193 x6182.Votes.length cap6194, .slice a6195 x6182.Next.length cap6196, .slice a6197 x6182.Match.length cap6198]) rfl rfl rfl info28 rfl rfl rfl rfl ho6413 fo6290 (Nat.le_of_ble_eq_true rfl) (by omega) (one1 rfl) rfl (fun H6445 hS6446 ho6447 hk6448 => ?_)
 have ho6449 := (hk6448 _ (by omega)).trans ho6410
 have ho6450 := (hk6448 _ (by omega)).trans ho6411
 have ho6451 := (hk6448 _ (by omega)).trans ho6412
 have h6452 := OD.keep h6414 (Nat.le_refl _) (fun i hi => hk6448 i (fun hj => (Ap.alloc (OD.hb h6225)) (hj ▸ hi)))
 have h6453 := OW.keep h6415 (Nat.le_refl _) (fun i hi => hk6448 i (fun hj => (Ap.alloc (OW.hb h5630)) (hj ▸ hi)))
 have h6454 := OW.keep h6416 (Nat.le_refl _) (fun i hi => hk6448 i (fun hj => (Ap.alloc (OW.hb h5632)) (hj ▸ hi)))
 have h6455 := OW.keep h6417 (Nat.le_refl _) (fun i hi => hk6448 i (fun hj => (Ap.alloc (OW.hb h5635)) (hj ▸ hi)))
 have h6456 := OW.keep h6418 (Nat.le_refl _) (fun i hi => hk6448 i (fun hj => (Ap.alloc (OW.hb h5636)) (hj ▸ hi)))
 have h6457 := OW.keep h6419 (Nat.le_refl _) (fun i hi => hk6448 i (fun hj => (Ap.alloc (OW.hb h6203)) (hj ▸ hi)))
 have h6458 := OW.keep h6420 (Nat.le_refl _) (fun i hi => hk6448 i (fun hj => (Ap.alloc (OW.hb h6210)) (hj ▸ hi)))
 have h6459 := OW.keep h6421 (Nat.le_refl _) (fun i hi => hk6448 i (fun hj => (Ap.alloc (OW.hb h6217)) (hj ▸ hi)))
 have h6460 := OW.keep h6422 (Nat.le_refl _) (fun i hi => hk6448 i (fun hj => (Ap.alloc (OW.hb h6224)) (hj ▸ hi)))
 have h6461 := OW.keep h6423 (Nat.le_refl _) (fun i hi => hk6448 i (fun hj => (Ap.fresh0 (OW.lb h6269) (by have := lt6232; omega)) (hj ▸ hi)))
 have h6462 := OW.keep h6424 (Nat.le_refl _) (fun i hi => hk6448 i (fun hj => (Ap.fresh0 (OW.lb h6324) (by have := lt6232; omega)) (hj ▸ hi)))
 have h6463 := OW.keep h6425 (Nat.le_refl _) (fun i hi => hk6448 i (fun hj => (Ap.fresh0 (OW.lb h6365) (by have := lt6232; omega)) (hj ▸ hi)))
 have h6464 := OW.keep h6427 (Nat.le_refl _) (fun i hi => hk6448 i (fun hj => (Ap.fresh0 (OW.lb h6408) (by have := lt6232; omega)) (hj ▸ hi)))
 refine WL.fieldAddr .r rfl rfl rfl Try.underlying42 rfl info40 rfl rfl ?_
 refine GL.store hS6446 .w (vc := [.slice a6322 x6316.length cap6323]) (c' := [.bool x6182.Up, .int .i64 x6182.Term, .int .i64 x6182.Vote, .int .i64 x6182.Commit, .int .i64 x6182.Role, .slice a6267 x6261.length cap6268, .slice a6322 x6316.length cap6323, .slice a6195 x6182.Next.length cap6196, .slice a6197 x6182.Match.length cap6198]) rfl rfl rfl info40 rfl rfl rfl rfl ho6447 fo6290 (Nat.le_of_ble_eq_true rfl) (by omega) (one1 rfl) rfl (fun H6465 hS6466 ho6467 hk6468 => ?_)
 have ho6469 := (hk6468 _ (by omega)).trans ho6449
 have ho6470 := (hk6468 _ (by omega)).trans ho6450
 have ho6471 := (hk6468 _ (by omega)).trans ho6451
 have h6472 := OD.keep h6452 (Nat.le_refl _) (fun i hi => hk6468 i (fun hj => (Ap.alloc (OD.hb h6225)) (hj ▸ hi)))
 have h6473 := OW.keep h6453 (Nat.le_refl _) (fun i hi => hk6468 i (fun hj => (Ap.alloc (OW.hb h5630)) (hj ▸ hi)))
 have h6474 := OW.keep h6454 (Nat.le_refl _) (fun i hi => hk6468 i (fun hj => (Ap.alloc (OW.hb h5632)) (hj ▸ hi)))
 have h6475 := OW.keep h6455 (Nat.le_refl _) (fun i hi => hk6468 i (fun hj => (Ap.alloc (OW.hb h5635)) (hj ▸ hi)))
 have h6476 := OW.keep h6456 (Nat.le_refl _) (fun i hi => hk6468 i (fun hj => (Ap.alloc (OW.hb h5636)) (hj ▸ hi)))
 have h6477 := OW.keep h6457 (Nat.le_refl _) (fun i hi => hk6468 i (fun hj => (Ap.alloc (OW.hb h6203)) (hj ▸ hi)))
 have h6478 := OW.keep h6458 (Nat.le_refl _) (fun i hi => hk6468 i (fun hj => (Ap.alloc (OW.hb h6210)) (hj ▸ hi)))
 have h6479 := OW.keep h6459 (Nat.le_refl _) (fun i hi => hk6468 i (fun hj => (Ap.alloc (OW.hb h6217)) (hj ▸ hi)))
 have h6480 := OW.keep h6460 (Nat.le_refl _) (fun i hi => hk6468 i (fun hj => (Ap.alloc (OW.hb h6224)) (hj ▸ hi)))
 have h6481 := OW.keep h6461 (Nat.le_refl _) (fun i hi => hk6468 i (fun hj => (Ap.fresh0 (OW.lb h6269) (by have := lt6232; omega)) (hj ▸ hi)))
 have h6482 := OW.keep h6462 (Nat.le_refl _) (fun i hi => hk6468 i (fun hj => (Ap.fresh0 (OW.lb h6324) (by have := lt6232; omega)) (hj ▸ hi)))
 have h6483 := OW.keep h6463 (Nat.le_refl _) (fun i hi => hk6468 i (fun hj => (Ap.fresh0 (OW.lb h6365) (by have := lt6232; omega)) (hj ▸ hi)))
 have h6484 := OW.keep h6464 (Nat.le_refl _) (fun i hi => hk6468 i (fun hj => (Ap.fresh0 (OW.lb h6408) (by have := lt6232; omega)) (hj ▸ hi)))
 refine WL.fieldAddr .r rfl rfl rfl Try.underlying42 rfl info31 rfl rfl ?_
 refine GL.store hS6466 .w (vc := [.slice a6363 x6357.length cap6364]) (c' := [.bool x6182.Up, .int .i64 x6182.Term, .int .i64 x6182.Vote, .int .i64 x6182.Commit, .int .i64 x6182.Role, .slice a6267 x6261.length cap6268, .slice a6322 x6316.length cap6323, .slice a6363 x6357.length cap6364, .slice a6197 x6182.Match.length cap6198]) rfl rfl rfl info31 rfl rfl rfl rfl ho6467 fo6290 (Nat.le_of_ble_eq_true rfl) (by omega) (one1 rfl) rfl (fun H6485 hS6486 ho6487 hk6488 => ?_)
 have ho6489 := (hk6488 _ (by omega)).trans ho6469
 have ho6490 := (hk6488 _ (by omega)).trans ho6470
 have ho6491 := (hk6488 _ (by omega)).trans ho6471
 have h6492 := OD.keep h6472 (Nat.le_refl _) (fun i hi => hk6488 i (fun hj => (Ap.alloc (OD.hb h6225)) (hj ▸ hi)))
 have h6493 := OW.keep h6473 (Nat.le_refl _) (fun i hi => hk6488 i (fun hj => (Ap.alloc (OW.hb h5630)) (hj ▸ hi)))
 have h6494 := OW.keep h6474 (Nat.le_refl _) (fun i hi => hk6488 i (fun hj => (Ap.alloc (OW.hb h5632)) (hj ▸ hi)))
 have h6495 := OW.keep h6475 (Nat.le_refl _) (fun i hi => hk6488 i (fun hj => (Ap.alloc (OW.hb h5635)) (hj ▸ hi)))
 have h6496 := OW.keep h6476 (Nat.le_refl _) (fun i hi => hk6488 i (fun hj => (Ap.alloc (OW.hb h5636)) (hj ▸ hi)))
 have h6497 := OW.keep h6477 (Nat.le_refl _) (fun i hi => hk6488 i (fun hj => (Ap.alloc (OW.hb h6203)) (hj ▸ hi)))
 have h6498 := OW.keep h6478 (Nat.le_refl _) (fun i hi => hk6488 i (fun hj => (Ap.alloc (OW.hb h6210)) (hj ▸ hi)))
 have h6499 := OW.keep h6479 (Nat.le_refl _) (fun i hi => hk6488 i (fun hj => (Ap.alloc (OW.hb h6217)) (hj ▸ hi)))
 have h6500 := OW.keep h6480 (Nat.le_refl _) (fun i hi => hk6488 i (fun hj => (Ap.alloc (OW.hb h6224)) (hj ▸ hi)))
 have h6501 := OW.keep h6481 (Nat.le_refl _) (fun i hi => hk6488 i (fun hj => (Ap.fresh0 (OW.lb h6269) (by have := lt6232; omega)) (hj ▸ hi)))
 have h6502 := OW.keep h6482 (Nat.le_refl _) (fun i hi => hk6488 i (fun hj => (Ap.fresh0 (OW.lb h6324) (by have := lt6232; omega)) (hj ▸ hi)))
 have h6503 := OW.keep h6483 (Nat.le_refl _) (fun i hi => hk6488 i (fun hj => (Ap.fresh0 (OW.lb h6365) (by have := lt6232; omega)) (hj ▸ hi)))
 have h6504 := OW.keep h6484 (Nat.le_refl _) (fun i hi => hk6488 i (fun hj => (Ap.fresh0 (OW.lb h6408) (by have := lt6232; omega)) (hj ▸ hi)))
 refine WL.fieldAddr .r rfl rfl rfl Try.underlying42 rfl info31 rfl rfl ?_
 refine GL.store hS6486 .w (vc := [.slice a6406 x6400.length cap6407]) (c' := [.bool x6182.Up, .int .i64 x6182.Term, .int .i64 x6182.Vote, .int .i64 x6182.Commit, .int .i64 x6182.Role, .slice a6267 x6261.length cap6268, .slice a6322 x6316.length cap6323, .slice a6363 x6357.length cap6364, .slice a6406 x6400.length cap6407]) rfl rfl rfl info31 rfl rfl rfl rfl ho6487 fo6290 (Nat.le_of_ble_eq_true rfl) (by omega) (one1 rfl) rfl (fun H6505 hS6506 ho6507 hk6508 => ?_)
 have ho6509 := (hk6508 _ (by omega)).trans ho6489
 have ho6510 := (hk6508 _ (by omega)).trans ho6490
 have ho6511 := (hk6508 _ (by omega)).trans ho6491
 have h6512 := OD.keep h6492 (Nat.le_refl _) (fun i hi => hk6508 i (fun hj => (Ap.alloc (OD.hb h6225)) (hj ▸ hi)))
 have h6513 := OW.keep h6493 (Nat.le_refl _) (fun i hi => hk6508 i (fun hj => (Ap.alloc (OW.hb h5630)) (hj ▸ hi)))
 have h6514 := OW.keep h6494 (Nat.le_refl _) (fun i hi => hk6508 i (fun hj => (Ap.alloc (OW.hb h5632)) (hj ▸ hi)))
 have h6515 := OW.keep h6495 (Nat.le_refl _) (fun i hi => hk6508 i (fun hj => (Ap.alloc (OW.hb h5635)) (hj ▸ hi)))
 have h6516 := OW.keep h6496 (Nat.le_refl _) (fun i hi => hk6508 i (fun hj => (Ap.alloc (OW.hb h5636)) (hj ▸ hi)))
 have h6517 := OW.keep h6497 (Nat.le_refl _) (fun i hi => hk6508 i (fun hj => (Ap.alloc (OW.hb h6203)) (hj ▸ hi)))
 have h6518 := OW.keep h6498 (Nat.le_refl _) (fun i hi => hk6508 i (fun hj => (Ap.alloc (OW.hb h6210)) (hj ▸ hi)))
 have h6519 := OW.keep h6499 (Nat.le_refl _) (fun i hi => hk6508 i (fun hj => (Ap.alloc (OW.hb h6217)) (hj ▸ hi)))
 have h6520 := OW.keep h6500 (Nat.le_refl _) (fun i hi => hk6508 i (fun hj => (Ap.alloc (OW.hb h6224)) (hj ▸ hi)))
 have h6521 := OW.keep h6501 (Nat.le_refl _) (fun i hi => hk6508 i (fun hj => (Ap.fresh0 (OW.lb h6269) (by have := lt6232; omega)) (hj ▸ hi)))
 have h6522 := OW.keep h6502 (Nat.le_refl _) (fun i hi => hk6508 i (fun hj => (Ap.fresh0 (OW.lb h6324) (by have := lt6232; omega)) (hj ▸ hi)))
 have h6523 := OW.keep h6503 (Nat.le_refl _) (fun i hi => hk6508 i (fun hj => (Ap.fresh0 (OW.lb h6365) (by have := lt6232; omega)) (hj ▸ hi)))
 have h6524 := OW.keep h6504 (Nat.le_refl _) (fun i hi => hk6508 i (fun hj => (Ap.fresh0 (OW.lb h6408) (by have := lt6232; omega)) (hj ▸ hi)))
 refine WL.nil ?_
 refine Ex.thn_norm ?_
 with_reducible refine W.region ?_
 refine WL.fieldAddr .nil rfl rfl rfl Try.underlying30 rfl info26 rfl rfl ?_
 refine WL.load1 .nil rfl rfl rfl Try.underlying26 rfl rfl ho6510 rfl ?_
 refine WL.loadN .nil (l' := [.bool x6182.Up, .int .i64 x6182.Term, .int .i64 x6182.Vote, .int .i64 x6182.Commit, .int .i64 x6182.Role, .slice a6267 x6261.length cap6268, .slice a6322 x6316.length cap6323, .slice a6363 x6357.length cap6364, .slice a6406 x6400.length cap6407]) rfl rfl rfl Try.underlying42 rfl info42 rfl ho6507 rfl rfl ?_
 obtain ⟨F6525, hS6526, hle6527, h6528, hf6529⟩ := OW.freeze h6521 hS6506
 have fo6530 := (hf6529 _ (Ap.fresh0 (OW.lb h6269) (by have := lt5664; omega))).trans fo6287
 have fo6531 := (hf6529 _ (Ap.fresh0 (OW.lb h6269) (by have := lt5665; omega))).trans fo6288
 have fo6532 := (hf6529 _ (Ap.fresh0 (OW.lb h6269) (by have := lt5666; omega))).trans fo6289
 have fo6533 := (hf6529 _ (Ap.fresh0 (OW.lb h6269) (by have := lt6232; omega))).trans fo6290
 have h6534 := OD.keepF h6512 hle6527 (fun i hi => (hf6529 i (fun hj => (Ap.fresh (OW.lb h6269) (OD.hb h6252)) i hj hi)).trans (OD.fnone h6512 hi))
 have h6535 := OW.keepF h6513 hle6527 (fun i hi => (hf6529 i (fun hj => (Ap.fresh (OW.lb h6269) (OW.hb h6253)) i hj hi)).trans (OW.fnone h6513 hi))
 have h6536 := OW.keepF h6514 hle6527 (fun i hi => (hf6529 i (fun hj => (Ap.fresh (OW.lb h6269) (OW.hb h6254)) i hj hi)).trans (OW.fnone h6514 hi))
 have h6537 := OW.keepF h6515 hle6527 (fun i hi => (hf6529 i (fun hj => (Ap.fresh (OW.lb h6269) (OW.hb h6255)) i hj hi)).trans (OW.fnone h6515 hi))
 have h6538 := OW.keepF h6516 hle6527 (fun i hi => (hf6529 i (fun hj => (Ap.fresh (OW.lb h6269) (OW.hb h6256)) i hj hi)).trans (OW.fnone h6516 hi))
 have h6539 := OW.keepF h6517 hle6527 (fun i hi => (hf6529 i (fun hj => (Ap.fresh (OW.lb h6269) (OW.hb h6257)) i hj hi)).trans (OW.fnone h6517 hi))
 have h6540 := OW.keepF h6518 hle6527 (fun i hi => (hf6529 i (fun hj => (Ap.fresh (OW.lb h6269) (OW.hb h6258)) i hj hi)).trans (OW.fnone h6518 hi))
 have h6541 := OW.keepF h6519 hle6527 (fun i hi => (hf6529 i (fun hj => (Ap.fresh (OW.lb h6269) (OW.hb h6259)) i hj hi)).trans (OW.fnone h6519 hi))
 have h6542 := OW.keepF h6520 hle6527 (fun i hi => (hf6529 i (fun hj => (Ap.fresh (OW.lb h6269) (OW.hb h6260)) i hj hi)).trans (OW.fnone h6520 hi))
 have h6543 := OW.keepF h6522 hle6527 (fun i hi => (hf6529 i (fun hj => (Ap.sym (Ap.fresh (OW.lb h6324) (OW.hb h6301))) i hj hi)).trans (OW.fnone h6522 hi))
 have h6544 := OW.keepF h6523 hle6527 (fun i hi => (hf6529 i (fun hj => (Ap.sym (Ap.fresh (OW.lb h6365) (OW.hb h6339))) i hj hi)).trans (OW.fnone h6523 hi))
 have h6545 := OW.keepF h6524 hle6527 (fun i hi => (hf6529 i (fun hj => (Ap.sym (Ap.fresh (OW.lb h6408) (OW.hb h6380))) i hj hi)).trans (OW.fnone h6524 hi))
 have hE6546 : Ext n0 F0 n6401 F6525 := ⟨Nat.le_trans hE6300.le (by omega), hE6300.sub.trans hle6527, fun i hi => (hf6529 i (fun hj => by have := OW.id_lt h6521 hj; omega)).trans (hE6300.eq i hi)⟩
 obtain ⟨F6547, hS6548, hle6549, h6550, hf6551⟩ := OW.freeze h6543 hS6526
 have fo6552 := (hf6551 _ (Ap.fresh0 (OW.lb h6324) (by have := lt5664; omega))).trans fo6530
 have fo6553 := (hf6551 _ (Ap.fresh0 (OW.lb h6324) (by have := lt5665; omega))).trans fo6531
 have fo6554 := (hf6551 _ (Ap.fresh0 (OW.lb h6324) (by have := lt5666; omega))).trans fo6532
 have fo6555 := (hf6551 _ (Ap.fresh0 (OW.lb h6324) (by have := lt6232; omega))).trans fo6533
 have h6556 := OD.keepF h6534 hle6549 (fun i hi => (hf6551 i (fun hj => (Ap.fresh (OW.lb h6324) (OD.hb h6291)) i hj hi)).trans (OD.fnone h6534 hi))
 have h6557 := OW.keepF h6535 hle6549 (fun i hi => (hf6551 i (fun hj => (Ap.fresh (OW.lb h6324) (OW.hb h6292)) i hj hi)).trans (OW.fnone h6535 hi))
 have h6558 := OW.keepF h6536 hle6549 (fun i hi => (hf6551 i (fun hj => (Ap.fresh (OW.lb h6324) (OW.hb h6293)) i hj hi)).trans (OW.fnone h6536 hi))
 have h6559 := OW.keepF h6537 hle6549 (fun i hi => (hf6551 i (fun hj => (Ap.fresh (OW.lb h6324) (OW.hb h6294)) i hj hi)).trans (OW.fnone h6537 hi))
 have h6560 := OW.keepF h6538 hle6549 (fun i hi => (hf6551 i (fun hj => (Ap.fresh (OW.lb h6324) (OW.hb h6295)) i hj hi)).trans (OW.fnone h6538 hi))
 have h6561 := OW.keepF h6539 hle6549 (fun i hi => (hf6551 i (fun hj => (Ap.fresh (OW.lb h6324) (OW.hb h6296)) i hj hi)).trans (OW.fnone h6539 hi))
 have h6562 := OW.keepF h6540 hle6549 (fun i hi => (hf6551 i (fun hj => (Ap.fresh (OW.lb h6324) (OW.hb h6297)) i hj hi)).trans (OW.fnone h6540 hi))
 have h6563 := OW.keepF h6541 hle6549 (fun i hi => (hf6551 i (fun hj => (Ap.fresh (OW.lb h6324) (OW.hb h6298)) i hj hi)).trans (OW.fnone h6541 hi))
 have h6564 := OW.keepF h6542 hle6549 (fun i hi => (hf6551 i (fun hj => (Ap.fresh (OW.lb h6324) (OW.hb h6299)) i hj hi)).trans (OW.fnone h6542 hi))
 have h6565 := OW.keepF h6544 hle6549 (fun i hi => (hf6551 i (fun hj => (Ap.sym (Ap.fresh (OW.lb h6365) (OW.hb h6341))) i hj hi)).trans (OW.fnone h6544 hi))
 have h6566 := OW.keepF h6545 hle6549 (fun i hi => (hf6551 i (fun hj => (Ap.sym (Ap.fresh (OW.lb h6408) (OW.hb h6381))) i hj hi)).trans (OW.fnone h6545 hi))
 have hE6567 : Ext n0 F0 n6401 F6547 := ⟨Nat.le_trans hE6546.le (by omega), hE6546.sub.trans hle6549, fun i hi => (hf6551 i (fun hj => by have := OW.id_lt h6543 hj; omega)).trans (hE6546.eq i hi)⟩
 obtain ⟨F6568, hS6569, hle6570, h6571, hf6572⟩ := OW.freeze h6565 hS6548
 have fo6573 := (hf6572 _ (Ap.fresh0 (OW.lb h6365) (by have := lt5664; omega))).trans fo6552
 have fo6574 := (hf6572 _ (Ap.fresh0 (OW.lb h6365) (by have := lt5665; omega))).trans fo6553
 have fo6575 := (hf6572 _ (Ap.fresh0 (OW.lb h6365) (by have := lt5666; omega))).trans fo6554
 have fo6576 := (hf6572 _ (Ap.fresh0 (OW.lb h6365) (by have := lt6232; omega))).trans fo6555
 have h6577 := OD.keepF h6556 hle6570 (fun i hi => (hf6572 i (fun hj => (Ap.fresh (OW.lb h6365) (OD.hb h6330)) i hj hi)).trans (OD.fnone h6556 hi))
 have h6578 := OW.keepF h6557 hle6570 (fun i hi => (hf6572 i (fun hj => (Ap.fresh (OW.lb h6365) (OW.hb h6331)) i hj hi)).trans (OW.fnone h6557 hi))
 have h6579 := OW.keepF h6558 hle6570 (fun i hi => (hf6572 i (fun hj => (Ap.fresh (OW.lb h6365) (OW.hb h6332)) i hj hi)).trans (OW.fnone h6558 hi))
 have h6580 := OW.keepF h6559 hle6570 (fun i hi => (hf6572 i (fun hj => (Ap.fresh (OW.lb h6365) (OW.hb h6333)) i hj hi)).trans (OW.fnone h6559 hi))
 have h6581 := OW.keepF h6560 hle6570 (fun i hi => (hf6572 i (fun hj => (Ap.fresh (OW.lb h6365) (OW.hb h6334)) i hj hi)).trans (OW.fnone h6560 hi))
 have h6582 := OW.keepF h6561 hle6570 (fun i hi => (hf6572 i (fun hj => (Ap.fresh (OW.lb h6365) (OW.hb h6335)) i hj hi)).trans (OW.fnone h6561 hi))
 have h6583 := OW.keepF h6562 hle6570 (fun i hi => (hf6572 i (fun hj => (Ap.fresh (OW.lb h6365) (OW.hb h6336)) i hj hi)).trans (OW.fnone h6562 hi))
 have h6584 := OW.keepF h6563 hle6570 (fun i hi => (hf6572 i (fun hj => (Ap.fresh (OW.lb h6365) (OW.hb h6337)) i hj hi)).trans (OW.fnone h6563 hi))
 have h6585 := OW.keepF h6564 hle6570 (fun i hi => (hf6572 i (fun hj => (Ap.fresh (OW.lb h6365) (OW.hb h6338)) i hj hi)).trans (OW.fnone h6564 hi))
 have h6586 := OW.keepF h6566 hle6570 (fun i hi => (hf6572 i (fun hj => (Ap.sym (Ap.fresh (OW.lb h6408) (OW.hb h6383))) i hj hi)).trans (OW.fnone h6566 hi))
 have hE6587 : Ext n0 F0 n6401 F6568 := ⟨Nat.le_trans hE6567.le (by omega), hE6567.sub.trans hle6570, fun i hi => (hf6572 i (fun hj => by have := OW.id_lt h6565 hj; omega)).trans (hE6567.eq i hi)⟩
 obtain ⟨F6588, hS6589, hle6590, h6591, hf6592⟩ := OW.freeze h6586 hS6569
 have fo6593 := (hf6592 _ (Ap.fresh0 (OW.lb h6408) (by have := lt5664; omega))).trans fo6573
 have fo6594 := (hf6592 _ (Ap.fresh0 (OW.lb h6408) (by have := lt5665; omega))).trans fo6574
 have fo6595 := (hf6592 _ (Ap.fresh0 (OW.lb h6408) (by have := lt5666; omega))).trans fo6575
 have fo6596 := (hf6592 _ (Ap.fresh0 (OW.lb h6408) (by have := lt6232; omega))).trans fo6576
 have h6597 := OD.keepF h6577 hle6590 (fun i hi => (hf6592 i (fun hj => (Ap.fresh (OW.lb h6408) (OD.hb h6371)) i hj hi)).trans (OD.fnone h6577 hi))
 have h6598 := OW.keepF h6578 hle6590 (fun i hi => (hf6592 i (fun hj => (Ap.fresh (OW.lb h6408) (OW.hb h6372)) i hj hi)).trans (OW.fnone h6578 hi))
 have h6599 := OW.keepF h6579 hle6590 (fun i hi => (hf6592 i (fun hj => (Ap.fresh (OW.lb h6408) (OW.hb h6373)) i hj hi)).trans (OW.fnone h6579 hi))
 have h6600 := OW.keepF h6580 hle6590 (fun i hi => (hf6592 i (fun hj => (Ap.fresh (OW.lb h6408) (OW.hb h6374)) i hj hi)).trans (OW.fnone h6580 hi))
 have h6601 := OW.keepF h6581 hle6590 (fun i hi => (hf6592 i (fun hj => (Ap.fresh (OW.lb h6408) (OW.hb h6375)) i hj hi)).trans (OW.fnone h6581 hi))
 have h6602 := OW.keepF h6582 hle6590 (fun i hi => (hf6592 i (fun hj => (Ap.fresh (OW.lb h6408) (OW.hb h6376)) i hj hi)).trans (OW.fnone h6582 hi))
 have h6603 := OW.keepF h6583 hle6590 (fun i hi => (hf6592 i (fun hj => (Ap.fresh (OW.lb h6408) (OW.hb h6377)) i hj hi)).trans (OW.fnone h6583 hi))
 have h6604 := OW.keepF h6584 hle6590 (fun i hi => (hf6592 i (fun hj => (Ap.fresh (OW.lb h6408) (OW.hb h6378)) i hj hi)).trans (OW.fnone h6584 hi))
 have h6605 := OW.keepF h6585 hle6590 (fun i hi => (hf6592 i (fun hj => (Ap.fresh (OW.lb h6408) (OW.hb h6379)) i hj hi)).trans (OW.fnone h6585 hi))
 have hE6606 : Ext n0 F0 n6401 F6588 := ⟨Nat.le_trans hE6587.le (by omega), hE6587.sub.trans hle6590, fun i hi => (hf6592 i (fun hj => by have := OW.id_lt h6586 hj; omega)).trans (hE6587.eq i hi)⟩
 refine GL.lit (cs := [.bool x6182.Up, .int .i64 x6182.Term, .int .i64 x6182.Vote, .int .i64 x6182.Commit, .int .i64 x6182.Role, .slice a6267 x6261.length cap6268, .slice a6322 x6316.length cap6323, .slice a6363 x6357.length cap6364, .slice a6406 x6400.length cap6407]) (xs := ([({ Up := x6182.Up, Term := x6182.Term, Vote := x6182.Vote, Commit := x6182.Commit, Role := x6182.Role, Log := x6261, Votes := x6316, Next := x6357, Match := x6400 } : GPeer)] : List GPeer)) hS6589 .nil rfl rfl rfl Try.underlying26 info42 rfl rfl rfl (by decide) (by decide) rfl rfl rfl rfl rfl (RA.cons (cs := [.bool x6182.Up, .int .i64 x6182.Term, .int .i64 x6182.Vote, .int .i64 x6182.Commit, .int .i64 x6182.Role, .slice a6267 x6261.length cap6268, .slice a6322 x6316.length cap6323, .slice a6363 x6357.length cap6364, .slice a6406 x6400.length cap6407]) (a := (({ Up := x6182.Up, Term := x6182.Term, Vote := x6182.Vote, Commit := x6182.Commit, Role := x6182.Role, Log := x6261, Votes := x6316, Next := x6357, Match := x6400 } : GPeer) : GPeer)) (GPeer.toR (x := ({ Up := x6182.Up, Term := x6182.Term, Vote := x6182.Vote, Commit := x6182.Commit, Role := x6182.Role, Log := x6261, Votes := x6316, Next := x6357, Match := x6400 } : GPeer)) (((h6528.mono hle6549).mono hle6570).mono hle6590) ((h6550.mono hle6570).mono hle6590) (h6571.mono hle6590) h6591) RA.nil) rfl (fun H6607 hS6608 hO6609 hk6610 => ?_)
 have ho6611 := (hk6610 _ (by have := lt5664; omega)).trans ho6509
 have ho6612 := (hk6610 _ (by have := lt5665; omega)).trans ho6510
 have ho6613 := (hk6610 _ (by have := lt5666; omega)).trans ho6511
 have ho6614 := (hk6610 _ (by have := lt6232; omega)).trans ho6507
 have h6615 := OD.keep (n' := (n6401 + 1)) h6597 (by omega) (fun i hi => hk6610 i (OD.id_lt h6597 hi).2)
 have h6616 := OW.keep (n' := (n6401 + 1)) h6598 (by omega) (fun i hi => hk6610 i (OW.id_lt h6598 hi).2)
 have h6617 := OW.keep (n' := (n6401 + 1)) h6599 (by omega) (fun i hi => hk6610 i (OW.id_lt h6599 hi).2)
 have h6618 := OW.keep (n' := (n6401 + 1)) h6600 (by omega) (fun i hi => hk6610 i (OW.id_lt h6600 hi).2)
 have h6619 := OW.keep (n' := (n6401 + 1)) h6601 (by omega) (fun i hi => hk6610 i (OW.id_lt h6601 hi).2)
 have h6620 := OW.keep (n' := (n6401 + 1)) h6602 (by omega) (fun i hi => hk6610 i (OW.id_lt h6602 hi).2)
 have h6621 := OW.keep (n' := (n6401 + 1)) h6603 (by omega) (fun i hi => hk6610 i (OW.id_lt h6603 hi).2)
 have h6622 := OW.keep (n' := (n6401 + 1)) h6604 (by omega) (fun i hi => hk6610 i (OW.id_lt h6604 hi).2)
 have h6623 := OW.keep (n' := (n6401 + 1)) h6605 (by omega) (fun i hi => hk6610 i (OW.id_lt h6605 hi).2)
 have h6624 := OW.lower (lo' := n0) hO6609 (by omega)
 have hlon64011 := hS6608.lo
 obtain ⟨hc6639, hr⟩ := chk_some hr
 refine GL.append (α := GPeer) hS6608 .nil rfl rfl rfl Try.underlying26 Try.underlying26 rfl info42 rfl rfl rfl (by decide) rfl rfl h6616 (by omega) (by omega) (OW.src h6624) hc6639 (fun a6640 cap6641 n6642 H6643 hS6644 hn6645 hO6646 hk6647 hid6648 => ?_)
 have ho6649 := (hk6647 _ (by have := lt5664; omega) ap5642).trans ho6611
 have ho6650 := (hk6647 _ (by have := lt5665; omega) ap5643).trans ho6612
 have ho6651 := (hk6647 _ (by have := lt5666; omega) ap5644).trans ho6613
 have ho6652 := (hk6647 _ (by have := lt6232; omega) (Ap.alloc (OW.hb h5630))).trans ho6614
 have h6653 := OD.keep h6615 hn6645 (fun i hi => hk6647 i (OD.id_lt h6615 hi).2 (fun hj => (Ap.sym (Ap.sub hs6221 (Ap.sub hs6214 (Ap.sub hs6207 (Ap.sub hs6200 (Ap.sym ap5645)))))) _ hj hi))
 have h6654 := OW.keep h6617 hn6645 (fun i hi => hk6647 i (OW.id_lt h6617 hi).2 (fun hj => (Ap.sym ap5650) _ hj hi))
 have h6655 := OW.keep h6618 hn6645 (fun i hi => hk6647 i (OW.id_lt h6618 hi).2 (fun hj => (Ap.sym ap5655) _ hj hi))
 have h6656 := OW.keep h6619 hn6645 (fun i hi => hk6647 i (OW.id_lt h6619 hi).2 (fun hj => (Ap.sym ap5661) _ hj hi))
 have h6657 := OW.keep h6620 hn6645 (fun i hi => hk6647 i (OW.id_lt h6620 hi).2 (fun hj => (Ap.sym (Ap.sub hs6201 (Ap.sym ap5645))) _ hj hi))
 have h6658 := OW.keep h6621 hn6645 (fun i hi => hk6647 i (OW.id_lt h6621 hi).2 (fun hj => (Ap.sym (Ap.sub hs6208 (Ap.sub hs6200 (Ap.sym ap5645)))) _ hj hi))
 have h6659 := OW.keep h6622 hn6645 (fun i hi => hk6647 i (OW.id_lt h6622 hi).2 (fun hj => (Ap.sym (Ap.sub hs6215 (Ap.sub hs6207 (Ap.sub hs6200 (Ap.sym ap5645))))) _ hj hi))
 have h6660 := OW.keep h6623 hn6645 (fun i hi => hk6647 i (OW.id_lt h6623 hi).2 (fun hj => (Ap.sym (Ap.sub hs6222 (Ap.sub hs6214 (Ap.sub hs6207 (Ap.sub hs6200 (Ap.sym ap5645)))))) _ hj hi))
 have h6661 := OW.keep h6624 hn6645 (fun i hi => hk6647 i (OW.id_lt h6624 hi).2 (fun hj => (Ap.sym (Ap.fresh (OW.lb hO6609) (OW.hb h6598))) _ hj hi))
 have ap6668 : ∀ b, idOf (.slice a6640 (xs5629 ++ ([({ Up := x6182.Up, Term := x6182.Term, Vote := x6182.Vote, Commit := x6182.Commit, Role := x6182.Role, Log := x6261, Votes := x6316, Next := x6357, Match := x6400 } : GPeer)] : List GPeer)).length cap6641) = some b → ¬ S6220 b := Ap.new hid6648 (OD.hb h6615) (Ap.sym (Ap.sub hs6221 (Ap.sub hs6214 (Ap.sub hs6207 (Ap.sub hs6200 (Ap.sym ap5645))))))
 have ap6676 : ∀ b, idOf (.slice a6640 (xs5629 ++ ([({ Up := x6182.Up, Term := x6182.Term, Vote := x6182.Vote, Commit := x6182.Commit, Role := x6182.Role, Log := x6261, Votes := x6316, Next := x6357, Match := x6400 } : GPeer)] : List GPeer)).length cap6641) = some b → idOf (.slice a6197 x6182.Match.length cap6198) ≠ some b := Ap.new hid6648 (OW.hb h6623) (Ap.sym (Ap.sub hs6222 (Ap.sub hs6214 (Ap.sub hs6207 (Ap.sub hs6200 (Ap.sym ap5645))))))
 have hlon6642 := hS6644.lo
 refine WL.fieldAddr .nil rfl rfl rfl Try.underlying30 rfl info26 rfl rfl ?_
 refine GL.store hS6644 .nil (vc := [.slice a6640 (xs5629 ++ ([({ Up := x6182.Up, Term := x6182.Term, Vote := x6182.Vote, Commit := x6182.Commit, Role := x6182.Role, Log := x6261, Votes := x6316, Next := x6357, Match := x6400 } : GPeer)] : List GPeer)).length cap6641]) (c' := [.slice a6640 (xs5629 ++ ([({ Up := x6182.Up, Term := x6182.Term, Vote := x6182.Vote, Commit := x6182.Commit, Role := x6182.Role, Log := x6261, Votes := x6316, Next := x6357, Match := x6400 } : GPeer)] : List GPeer)).length cap6641, .slice none 0 0, .slice a40 x34.length cap41, .bool x1.Conflict]) rfl rfl rfl info26 rfl rfl rfl rfl ho6650 fo6594 (Nat.le_of_ble_eq_true rfl) (by omega) (one1 rfl) rfl (fun H6678 hS6679 ho6680 hk6681 => ?_)
 have ho6682 := (hk6681 _ (by omega)).trans ho6649
 have ho6683 := (hk6681 _ (by omega)).trans ho6651
 have ho6684 := (hk6681 _ (by omega)).trans ho6652
 have h6685 := OD.keep h6653 (Nat.le_refl _) (fun i hi => hk6681 i (fun hj => (Ap.sub0 hs6221 (Ap.sub0 hs6214 (Ap.sub0 hs6207 (Ap.sub0 hs6200 ap5640)))) (hj ▸ hi)))
 have h6686 := OW.keep h6654 (Nat.le_refl _) (fun i hi => hk6681 i (fun hj => ap5647 (hj ▸ hi)))
 have h6687 := OW.keep h6655 (Nat.le_refl _) (fun i hi => hk6681 i (fun hj => ap5652 (hj ▸ hi)))
 have h6688 := OW.keep h6656 (Nat.le_refl _) (fun i hi => hk6681 i (fun hj => ap5658 (hj ▸ hi)))
 have h6689 := OW.keep h6657 (Nat.le_refl _) (fun i hi => hk6681 i (fun hj => (Ap.sub0 hs6201 ap5640) (hj ▸ hi)))
 have h6690 := OW.keep h6658 (Nat.le_refl _) (fun i hi => hk6681 i (fun hj => (Ap.sub0 hs6208 (Ap.sub0 hs6200 ap5640)) (hj ▸ hi)))
 have h6691 := OW.keep h6659 (Nat.le_refl _) (fun i hi => hk6681 i (fun hj => (Ap.sub0 hs6215 (Ap.sub0 hs6207 (Ap.sub0 hs6200 ap5640))) (hj ▸ hi)))
 have h6692 := OW.keep h6660 (Nat.le_refl _) (fun i hi => hk6681 i (fun hj => (Ap.sub0 hs6222 (Ap.sub0 hs6214 (Ap.sub0 hs6207 (Ap.sub0 hs6200 ap5640)))) (hj ▸ hi)))
 have h6693 := OW.keep h6661 (Nat.le_refl _) (fun i hi => hk6681 i (fun hj => (Ap.fresh0 (OW.lb hO6609) (by have := lt5665; omega)) (hj ▸ hi)))
 have h6694 := OW.keep hO6646 (Nat.le_refl _) (fun i hi => hk6681 i (fun hj => (Ap.new0 hid6648 (by have := lt5665; omega) ap5643) (hj ▸ hi)))
 refine WL.nil ?_
 with_reducible refine Ex.blk_norm ?_
 refine Ex.thn_norm ?_
 with_reducible refine W.region ?_
 obtain ⟨hc6695, hr⟩ := chk_some hr
 refine WL.addI .nil rfl rfl rfl rfl rfl hc6695.1 hc6695.2 ?_
 refine WL.move .nil rfl rfl rfl rfl ?_
 refine WL.nil ?_
 refine Ex.thn_norm ?_
 obtain ⟨S6696, hs6697, h6698⟩ := GPeer.close0_Match h6685 hx6182 h6692
 have ap6699 : ¬ S6696 n0 := Ap.or0 hs6697 (Ap.sub0 hs6221 (Ap.sub0 hs6214 (Ap.sub0 hs6207 (Ap.sub0 hs6200 ap5639)))) (Ap.sub0 hs6222 (Ap.sub0 hs6214 (Ap.sub0 hs6207 (Ap.sub0 hs6200 ap5639))))
 have ap6700 : ¬ S6696 n35 := Ap.or0 hs6697 (Ap.sub0 hs6221 (Ap.sub0 hs6214 (Ap.sub0 hs6207 (Ap.sub0 hs6200 ap5640)))) (Ap.sub0 hs6222 (Ap.sub0 hs6214 (Ap.sub0 hs6207 (Ap.sub0 hs6200 ap5640))))
 have ap6701 : ¬ S6696 p0 := Ap.or0 hs6697 (Ap.sub0 hs6221 (Ap.sub0 hs6214 (Ap.sub0 hs6207 (Ap.sub0 hs6200 ap5641)))) (Ap.sub0 hs6222 (Ap.sub0 hs6214 (Ap.sub0 hs6207 (Ap.sub0 hs6200 ap5641))))
 have ap6702 : ∀ b, S6696 b → idOf (.slice a40 x34.length cap41) ≠ some b := Ap.or hs6697 (Ap.sub hs6221 (Ap.sub hs6214 (Ap.sub hs6207 (Ap.sub hs6200 (Ap.sym ap5649))))) (Ap.sub hs6222 (Ap.sub hs6214 (Ap.sub hs6207 (Ap.sub hs6200 (Ap.sym ap5649)))))
 have ap6703 : ∀ b, S6696 b → idOf (.slice a7 x1.Net.length cap8) ≠ some b := Ap.or hs6697 (Ap.sub hs6221 (Ap.sub hs6214 (Ap.sub hs6207 (Ap.sub hs6200 (Ap.sym ap5654))))) (Ap.sub hs6222 (Ap.sub hs6214 (Ap.sub hs6207 (Ap.sub hs6200 (Ap.sym ap5654)))))
 have ap6704 : ∀ b, S6696 b → idOf (.slice a11 x1.Chosen.length cap12) ≠ some b := Ap.or hs6697 (Ap.sub hs6221 (Ap.sub hs6214 (Ap.sub hs6207 (Ap.sub hs6200 (Ap.sym ap5660))))) (Ap.sub hs6222 (Ap.sub hs6214 (Ap.sub hs6207 (Ap.sub hs6200 (Ap.sym ap5660)))))
 have ap6705 : ∀ b, S6696 b → idOf (.slice a6191 x6182.Log.length cap6192) ≠ some b := Ap.or hs6697 (Ap.sub hs6221 (Ap.sub hs6214 (Ap.sub hs6207 (Ap.sym hs6202)))) (Ap.sub hs6222 (Ap.sub hs6214 (Ap.sub hs6207 (Ap.sym hs6202))))
 obtain ⟨S6706, hs6707, h6708⟩ := GPeer.close0_Next h6698 hx6182 h6691
 have ap6709 : ∀ b, S6706 b → idOf (.slice a6193 x6182.Votes.length cap6194) ≠ some b := Ap.or hs6707 (Ap.or hs6697 (Ap.sub hs6221 (Ap.sub hs6214 (Ap.sym hs6209))) (Ap.sub hs6222 (Ap.sub hs6214 (Ap.sym hs6209)))) (Ap.sub hs6215 (Ap.sym hs6209))
 have ap6710 : ∀ b, S6706 b → idOf (.slice (some ⟨n6401, 0, none⟩) ([({ Up := x6182.Up, Term := x6182.Term, Vote := x6182.Vote, Commit := x6182.Commit, Role := x6182.Role, Log := x6261, Votes := x6316, Next := x6357, Match := x6400 } : GPeer)] : List GPeer).length 1) ≠ some b := Ap.or hs6707 (Ap.or hs6697 (Ap.sym (Ap.fresh (OW.lb hO6609) (OD.hb h6597))) (Ap.sym (Ap.fresh (OW.lb hO6609) (OW.hb h6605)))) (Ap.sym (Ap.fresh (OW.lb hO6609) (OW.hb h6604)))
 have ap6711 : ∀ b, S6706 b → idOf (.slice a6640 (xs5629 ++ ([({ Up := x6182.Up, Term := x6182.Term, Vote := x6182.Vote, Commit := x6182.Commit, Role := x6182.Role, Log := x6261, Votes := x6316, Next := x6357, Match := x6400 } : GPeer)] : List GPeer)).length cap6641) ≠ some b := Ap.or hs6707 (Ap.or hs6697 (Ap.sym ap6668) (Ap.sym ap6676)) (Ap.sym (Ap.new hid6648 (OW.hb h6622) (Ap.sym (Ap.sub hs6215 (Ap.sub hs6207 (Ap.sub hs6200 (Ap.sym ap5645)))))))
 obtain ⟨S6712, hs6713, h6714⟩ := GPeer.close0_Votes h6708 hx6182 h6690
 have ap6715 : ¬ S6712 n0 := Ap.or0 hs6713 (Ap.or0 hs6707 ap6699 (Ap.sub0 hs6215 (Ap.sub0 hs6207 (Ap.sub0 hs6200 ap5639)))) (Ap.sub0 hs6208 (Ap.sub0 hs6200 ap5639))
 have ap6716 : ¬ S6712 n35 := Ap.or0 hs6713 (Ap.or0 hs6707 ap6700 (Ap.sub0 hs6215 (Ap.sub0 hs6207 (Ap.sub0 hs6200 ap5640)))) (Ap.sub0 hs6208 (Ap.sub0 hs6200 ap5640))
 have ap6717 : ¬ S6712 p0 := Ap.or0 hs6713 (Ap.or0 hs6707 ap6701 (Ap.sub0 hs6215 (Ap.sub0 hs6207 (Ap.sub0 hs6200 ap5641)))) (Ap.sub0 hs6208 (Ap.sub0 hs6200 ap5641))
 have ap6718 : ¬ S6712 n5617 := Ap.or0 hs6713 (Ap.or0 hs6707 (Ap.or0 hs6697 (Ap.alloc (OD.hb h6225)) (Ap.alloc (OW.hb h6224))) (Ap.alloc (OW.hb h6217))) (Ap.alloc (OW.hb h6210))
 have ap6719 : ∀ b, S6712 b → idOf (.slice a40 x34.length cap41) ≠ some b := Ap.or hs6713 (Ap.or hs6707 ap6702 (Ap.sub hs6215 (Ap.sub hs6207 (Ap.sub hs6200 (Ap.sym ap5649))))) (Ap.sub hs6208 (Ap.sub hs6200 (Ap.sym ap5649)))
 have ap6720 : ∀ b, S6712 b → idOf (.slice a7 x1.Net.length cap8) ≠ some b := Ap.or hs6713 (Ap.or hs6707 ap6703 (Ap.sub hs6215 (Ap.sub hs6207 (Ap.sub hs6200 (Ap.sym ap5654))))) (Ap.sub hs6208 (Ap.sub hs6200 (Ap.sym ap5654)))
 have ap6721 : ∀ b, S6712 b → idOf (.slice a11 x1.Chosen.length cap12) ≠ some b := Ap.or hs6713 (Ap.or hs6707 ap6704 (Ap.sub hs6215 (Ap.sub hs6207 (Ap.sub hs6200 (Ap.sym ap5660))))) (Ap.sub hs6208 (Ap.sub hs6200 (Ap.sym ap5660)))
 have ap6722 : ∀ b, S6712 b → idOf (.slice a6191 x6182.Log.length cap6192) ≠ some b := Ap.or hs6713 (Ap.or hs6707 ap6705 (Ap.sub hs6215 (Ap.sub hs6207 (Ap.sym hs6202)))) (Ap.sub hs6208 (Ap.sym hs6202))
 have ap6723 : ∀ b, S6712 b → idOf (.slice a6640 (xs5629 ++ ([({ Up := x6182.Up, Term := x6182.Term, Vote := x6182.Vote, Commit := x6182.Commit, Role := x6182.Role, Log := x6261, Votes := x6316, Next := x6357, Match := x6400 } : GPeer)] : List GPeer)).length cap6641) ≠ some b := Ap.or hs6713 ap6711 (Ap.sym (Ap.new hid6648 (OW.hb h6621) (Ap.sym (Ap.sub hs6208 (Ap.sub hs6200 (Ap.sym ap5645))))))
 obtain ⟨S6724, hs6725, h6726⟩ := GPeer.close0_Log h6714 hx6182 h6689
 have ap6727 : ∀ b, S6724 b → idOf (.slice (some ⟨n6401, 0, none⟩) ([({ Up := x6182.Up, Term := x6182.Term, Vote := x6182.Vote, Commit := x6182.Commit, Role := x6182.Role, Log := x6261, Votes := x6316, Next := x6357, Match := x6400 } : GPeer)] : List GPeer).length 1) ≠ some b := Ap.or hs6725 (Ap.or hs6713 ap6710 (Ap.sym (Ap.fresh (OW.lb hO6609) (OW.hb h6603)))) (Ap.sym (Ap.fresh (OW.lb hO6609) (OW.hb h6602)))
 exact ⟨[(0, .pointer (some ⟨p0, 0, none⟩)), (2, .pointer (some ⟨n0, 0, none⟩)), (3, .pointer (some ⟨n35, 0, none⟩)), (21, .slice a2 x1.Peers.length cap3), (22, .int .i64 (x1.Peers.length : Int)), (23, .int .i64 (x5624 + 1))], (Fr.le_cons rfl (Fr.le_cons rfl (Fr.le_cons rfl (Fr.le_cons rfl (Fr.le_cons rfl (Fr.le_cons rfl Fr.le_nil)))))), S6724, (x5624 + 1), a6640, cap6641, (xs5629 ++ ([({ Up := x6182.Up, Term := x6182.Term, Vote := x6182.Vote, Commit := x6182.Commit, Role := x6182.Role, Log := x6261, Votes := x6316, Next := x6357, Match := x6400 } : GPeer)] : List GPeer)), F6588, rfl, hS6679, (hE6606.up (by omega)), ho6682, fo6593, ho6680, fo6594, ho6683, fo6595, h6726, h6694, h6686, h6687, h6688, (Ap.or0 hs6725 ap6715 (Ap.sub0 hs6201 ap5639)), (Ap.or0 hs6725 ap6716 (Ap.sub0 hs6201 ap5640)), (Ap.or0 hs6725 ap6717 (Ap.sub0 hs6201 ap5641)), (Ap.new0 hid6648 (by have := lt5664; omega) ap5642), (Ap.new0 hid6648 (by have := lt5665; omega) ap5643), (Ap.new0 hid6648 (by have := lt5666; omega) ap5644), (Ap.sym (Ap.or hs6725 ap6723 (Ap.sym (Ap.new hid6648 (OW.hb h6620) (Ap.sym (Ap.sub hs6201 (Ap.sym ap5645))))))), ap5646, ap5647, ap5648, (Ap.sym (Ap.or hs6725 ap6719 (Ap.sub hs6201 (Ap.sym ap5649)))), (Ap.sym (Ap.new hid6648 (OW.hb h6617) (Ap.sym ap5650))), ap5651, ap5652, ap5653, (Ap.sym (Ap.or hs6725 ap6720 (Ap.sub hs6201 (Ap.sym ap5654)))), (Ap.sym (Ap.new hid6648 (OW.hb h6618) (Ap.sym ap5655))), ap5656, ap5657, ap5658, ap5659, (Ap.sym (Ap.or hs6725 ap6721 (Ap.sub hs6201 (Ap.sym ap5660)))), (Ap.sym (Ap.new hid6648 (OW.hb h6619) (Ap.sym ap5661))), ap5662, ap5663, hr⟩
 }
 {
 replace hr := ite_neg hr hc5668
 with_reducible refine W.exit ?_
 with_reducible refine Ex.thn_ex ?_
 with_reducible refine Ex.thn_ex ?_
 with_reducible refine Ex.blk_here ?_
 refine Ex.thn_norm ?_
 with_reducible refine W.seq ?_
 with_reducible refine W.seq ?_
 with_reducible refine W.region ?_
 refine WL.move .nil rfl rfl rfl rfl ?_
 refine WL.nilCheck .nil rfl rfl rfl rfl ?_
 refine WL.fieldAddr .nil rfl rfl rfl Try.underlying30 rfl info27 rfl rfl ?_
 refine WL.load1 .nil rfl rfl rfl Try.underlying27 rfl rfl ho5637 rfl ?_
 refine WL.len .nil rfl rfl rfl Try.underlying27 rfl ?_
 refine WL.move .nil rfl rfl rfl rfl ?_
 refine WL.nil ?_
 refine Ex.thn_norm ?_
 with_reducible refine W.block ?_
 refine W.loopF (fun k1 fr n H => ∃ (x8452 : Int) (a8456 : Option Addr) (cap8457 : Nat) (xs8458 : (List GMsg)) (S8465 : Nat → Prop) (F : Heap), fr = [(2, .pointer (some ⟨n0, 0, none⟩)), (3, .pointer (some ⟨n35, 0, none⟩)), (53, .slice a7 x1.Net.length cap8), (54, .int .i64 (x1.Net.length : Int)), (55, .int .i64 x8452)] ∧ St n0 n H F ∧ Ext n0 F0 n F ∧ H n0 = some (.row 1 [.slice none 0 0, .slice none 0 0, .slice none 0 0, .bool false]) ∧ F n0 = none ∧ H n35 = some (.row 1 [.slice a5627 xs5629.length cap5628, .slice a8456 xs8458.length cap8457, .slice a40 x34.length cap41, .bool x1.Conflict]) ∧ F n35 = none ∧ H p0 = some (.row ez0 [.slice a2 x1.Peers.length cap3, .slice a7 x1.Net.length cap8, .slice a11 x1.Chosen.length cap12, .bool x1.Conflict]) ∧ F p0 = none ∧ OW lw0 n H F (.slice a7 x1.Net.length cap8) x1.Net ∧ OW n0 n H F (.slice a5627 xs5629.length cap5628) xs5629 ∧ OW n0 n H F (.slice a8456 xs8458.length cap8457) xs8458 ∧ OW n0 n H F (.slice a40 x34.length cap41) x34 ∧ OD lw0 n H F S8465 [] (.slice a2 x1.Peers.length cap3) x1.Peers ∧ OW lw0 n H F (.slice a11 x1.Chosen.length cap12) x1.Chosen ∧ idOf (.slice a7 x1.Net.length cap8) ≠ some n0 ∧ idOf (.slice a7 x1.Net.length cap8) ≠ some n35 ∧ idOf (.slice a7 x1.Net.length cap8) ≠ some p0 ∧ idOf (.slice a5627 xs5629.length cap5628) ≠ some n0 ∧ idOf (.slice a5627 xs5629.length cap5628) ≠ some n35 ∧ idOf (.slice a5627 xs5629.length cap5628) ≠ some p0 ∧ (∀ b, idOf (.slice a5627 xs5629.length cap5628) = some b → idOf (.slice a7 x1.Net.length cap8) ≠ some b) ∧ idOf (.slice a8456 xs8458.length cap8457) ≠ some n0 ∧ idOf (.slice a8456 xs8458.length cap8457) ≠ some n35 ∧ idOf (.slice a8456 xs8458.length cap8457) ≠ some p0 ∧ (∀ b, idOf (.slice a8456 xs8458.length cap8457) = some b → idOf (.slice a7 x1.Net.length cap8) ≠ some b) ∧ (∀ b, idOf (.slice a8456 xs8458.length cap8457) = some b → idOf (.slice a5627 xs5629.length cap5628) ≠ some b) ∧ idOf (.slice a40 x34.length cap41) ≠ some n0 ∧ idOf (.slice a40 x34.length cap41) ≠ some n35 ∧ idOf (.slice a40 x34.length cap41) ≠ some p0 ∧ (∀ b, idOf (.slice a40 x34.length cap41) = some b → idOf (.slice a7 x1.Net.length cap8) ≠ some b) ∧ (∀ b, idOf (.slice a40 x34.length cap41) = some b → idOf (.slice a5627 xs5629.length cap5628) ≠ some b) ∧ (∀ b, idOf (.slice a40 x34.length cap41) = some b → idOf (.slice a8456 xs8458.length cap8457) ≠ some b) ∧ ¬ S8465 n0 ∧ ¬ S8465 n35 ∧ ¬ S8465 p0 ∧ (∀ b, S8465 b → idOf (.slice a7 x1.Net.length cap8) ≠ some b) ∧ (∀ b, S8465 b → idOf (.slice a5627 xs5629.length cap5628) ≠ some b) ∧ (∀ b, S8465 b → idOf (.slice a8456 xs8458.length cap8457) ≠ some b) ∧ (∀ b, S8465 b → idOf (.slice a40 x34.length cap41) ≠ some b) ∧ idOf (.slice a11 x1.Chosen.length cap12) ≠ some n0 ∧ idOf (.slice a11 x1.Chosen.length cap12) ≠ some n35 ∧ idOf (.slice a11 x1.Chosen.length cap12) ≠ some p0 ∧ (∀ b, idOf (.slice a11 x1.Chosen.length cap12) = some b → idOf (.slice a7 x1.Net.length cap8) ≠ some b) ∧ (∀ b, idOf (.slice a11 x1.Chosen.length cap12) = some b → idOf (.slice a5627 xs5629.length cap5628) ≠ some b) ∧ (∀ b, idOf (.slice a11 x1.Chosen.length cap12) = some b → idOf (.slice a8456 xs8458.length cap8457) ≠ some b) ∧ (∀ b, idOf (.slice a11 x1.Chosen.length cap12) = some b → idOf (.slice a40 x34.length cap41) ≠ some b) ∧ (∀ b, idOf (.slice a11 x1.Chosen.length cap12) = some b → ¬ S8465 b) ∧ f_impl_Cluster_told_L1 x1 xs5629 x34 k1 x8452 xs8458 = some res) BIG (fr0 := [(2, .pointer (some ⟨n0, 0, none⟩)), (3, .pointer (some ⟨n35, 0, none⟩)), (53, .slice a7 x1.Net.length cap8), (54, .int .i64 (x1.Net.length : Int)), (55, .int .i64 0)]) (Fr.le_cons rfl (Fr.le_cons rfl (Fr.le_cons rfl (Fr.le_cons rfl (Fr.le_cons rfl Fr.le_nil))))) ?_ ?_ ?_
 {
 exact ⟨0, none, 0, [], S5623, F5619, rfl, hS5620, hE5621, ho5625, fo5626, ho5633, fo5634, ho5637, fo5638, h5635, h5630, OW.nil, h5632, h5622, h5636, ap5651, ap5652, ap5653, ap5642, ap5643, ap5644, (Ap.sym ap5655), (fun h => by cases h), (fun h => by cases h), (fun h => by cases h), (fun b h => by cases h), (fun b h => by cases h), ap5646, ap5647, ap5648, (Ap.sym ap5656), ap5650, (fun b _ h => by cases h), ap5639, ap5640, ap5641, (Ap.sym ap5654), (Ap.sym ap5645), (fun b _ h => by cases h), (Ap.sym ap5649), ap5657, ap5658, ap5659, ap5663, ap5661, (fun b _ h => by cases h), ap5662, ap5660, hr⟩
 }
 {
 intro fr n H hI
 obtain ⟨x8452, a8456, cap8457, xs8458, S8465, F8448, hfr, hS8449, hE8450, ho8453, fo8454, ho8462, fo8463, ho8467, fo8468, h8451, h8455, h8459, h8461, h8464, h8466, ap8469, ap8470, ap8471, ap8472, ap8473, ap8474, ap8475, ap8476, ap8477, ap8478, ap8479, ap8480, ap8481, ap8482, ap8483, ap8484, ap8485, ap8486, ap8487, ap8488, ap8489, ap8490, ap8491, ap8492, ap8493, ap8494, ap8495, ap8496, ap8497, ap8498, ap8499, ap8500, ap8501, hr⟩ := hI
 rw [f_impl_Cluster_told_L1] at hr
 cases hr
 }
 {
 intro k1 _ n8446 H8447 hI
 obtain ⟨x8452, a8456, cap8457, xs8458, S8465, F8448, rfl, hS8449, hE8450, ho8453, fo8454, ho8462, fo8463, ho8467, fo8468, h8451, h8455, h8459, h8461, h8464, h8466, ap8469, ap8470, ap8471, ap8472, ap8473, ap8474, ap8475, ap8476, ap8477, ap8478, ap8479, ap8480, ap8481, ap8482, ap8483, ap8484, ap8485, ap8486, ap8487, ap8488, ap8489, ap8490, ap8491, ap8492, ap8493, ap8494, ap8495, ap8496, ap8497, ap8498, ap8499, ap8500, ap8501, hr⟩ := hI
 have lt8502 := hS8449.lt ho8453
 have lt8503 := hS8449.lt ho8462
 have lt8504 := hS8449.lt ho8467
 have hlen8446 := hE8450.le
 have hlon8446 := hS8449.lo
 rw [f_impl_Cluster_told_L1] at hr
 with_reducible refine W.seq ?_
 with_reducible refine W.region ?_
 refine WL.bin .nil rfl rfl rfl rfl rfl rfl ?_
 refine WL.nil ?_
 refine Ex.thn_norm ?_
 with_reducible refine W.seq ?_
 refine W.condD rfl (fun hc8506 => ?_) (fun hc8506 => ?_)
 {
 replace hr := ite_pos hr hc8506
 with_reducible refine W.skip ?_
 refine Ex.thn_norm ?_
 with_reducible refine W.seq ?_
 with_reducible refine W.block ?_
 with_reducible refine W.seq ?_
 with_reducible refine W.region ?_
 obtain ⟨x8653, hx8653, hr⟩ := bnd_some hr
 refine GL.indexO .nil rfl rfl rfl Try.underlying27 info85 rfl rfl h8451 rfl hx8653 (fun b8654 kp8655 c8656 ecs8657 hid8661 hrow8658 hwin8659 hR8660 hup8662 => ?_)
 obtain ⟨a8663, cap8664, rfl, h8665⟩ := GMsg.ofR hR8660
 refine WL.loadN .nil (l' := [.int .i64 x8653.Kind, .int .i64 x8653.From, .int .i64 x8653.To, .int .i64 x8653.Term, .int .i64 x8653.A, .int .i64 x8653.B, .int .i64 x8653.C, .bool x8653.Ok, .slice a8663 x8653.Log.length cap8664]) rfl rfl rfl Try.underlying85 rfl info85 rfl hrow8658 hwin8659 rfl ?_
 refine GL.alloc hS8449 .nil (zc := [.int .i64 0, .int .i64 0, .int .i64 0, .int .i64 0, .int .i64 0, .int .i64 0, .int .i64 0, .bool false, .slice none 0 0]) rfl rfl rfl info85 rfl rfl rfl (fun H8666 hS8667 ho8668 hk8669 => ?_)
 have fo8670 := hS8449.fnone (Nat.le_refl _)
 have ho8672 := (hk8669 _ (by have := lt8502; omega)).trans ho8453
 have ho8673 := (hk8669 _ (by have := lt8503; omega)).trans ho8462
 have ho8674 := (hk8669 _ (by have := lt8504; omega)).trans ho8467
 have h8675 := OW.keep (n' := (n8446 + 1)) h8451 (by omega) (fun i hi => hk8669 i (OW.id_lt h8451 hi).2)
 have h8676 := OW.keep (n' := (n8446 + 1)) h8455 (by omega) (fun i hi => hk8669 i (OW.id_lt h8455 hi).2)
 have h8677 := OW.keep (n' := (n8446 + 1)) h8459 (by omega) (fun i hi => hk8669 i (OW.id_lt h8459 hi).2)
 have h8678 := OW.keep (n' := (n8446 + 1)) h8461 (by omega) (fun i hi => hk8669 i (OW.id_lt h8461 hi).2)
 have h8679 := OD.keep (n' := (n8446 + 1)) h8464 (by omega) (fun i hi => hk8669 i (OD.id_lt h8464 hi).2)
 have h8680 := OW.keep (n' := (n8446 + 1)) h8466 (by omega) (fun i hi => hk8669 i (OW.id_lt h8466 hi).2)
 have hlon84461 := hS8667.lo
 have lt8671 : n8446 < (n8446 + 1) := by omega
 refine GL.store hS8667 .nil (vc := [.int .i64 x8653.Kind, .int .i64 x8653.From, .int .i64 x8653.To, .int .i64 x8653.Term, .int .i64 x8653.A, .int .i64 x8653.B, .int .i64 x8653.C, .bool x8653.Ok, .slice a8663 x8653.Log.length cap8664]) (c' := [.int .i64 x8653.Kind, .int .i64 x8653.From, .int .i64 x8653.To, .int .i64 x8653.Term, .int .i64 x8653.A, .int .i64 x8653.B, .int .i64 x8653.C, .bool x8653.Ok, .slice a8663 x8653.Log.length cap8664]) rfl rfl rfl info85 rfl rfl rfl rfl ho8668 fo8670 (Nat.le_of_ble_eq_true rfl) (by omega) (by repeat' (first | exact List.forall_mem_nil _ | refine List.forall_mem_cons.2 ⟨?_, ?_⟩ | rfl)) rfl (fun H8681 hS8682 ho8683 hk8684 => ?_)
 have ho8685 := (hk8684 _ (by omega)).trans ho8672
 have ho8686 := (hk8684 _ (by omega)).trans ho8673
 have ho8687 := (hk8684 _ (by omega)).trans ho8674
 have h8688 := OW.keep h8675 (Nat.le_refl _) (fun i hi => hk8684 i (fun hj => (Ap.alloc (OW.hb h8451)) (hj ▸ hi)))
 have h8689 := OW.keep h8676 (Nat.le_refl _) (fun i hi => hk8684 i (fun hj => (Ap.alloc (OW.hb h8455)) (hj ▸ hi)))
 have h8690 := OW.keep h8677 (Nat.le_refl _) (fun i hi => hk8684 i (fun hj => (Ap.alloc (OW.hb h8459)) (hj ▸ hi)))
 have h8691 := OW.keep h8678 (Nat.le_refl _) (fun i hi => hk8684 i (fun hj => (Ap.alloc (OW.hb h8461)) (hj ▸ hi)))
 have h8692 := OD.keep h8679 (Nat.le_refl _) (fun i hi => hk8684 i (fun hj => (Ap.alloc (OD.hb h8464)) (hj ▸ hi)))
 have h8693 := OW.keep h8680 (Nat.le_refl _) (fun i hi => hk8684 i (fun hj => (Ap.alloc (OW.hb h8466)) (hj ▸ hi)))
 refine WL.nil ?_
 refine Ex.thn_norm ?_
 refine W.regionD [0, 1, 2, 3, 4, 5, 6, 7] [false, false, false, false, false, true, false, true] rfl rfl (by kernel_rfl) (by kernel_rfl) (by (conv => lhs; simp only [List.map_cons, List.map_nil, List.getD_cons_zero, List.getD_cons_succ]) <;> rfl) ?_
 refine WL.fieldAddr .r rfl rfl rfl Try.underlying30 rfl info27 rfl rfl ?_
 refine WL.load1 .r rfl rfl rfl Try.underlying27 rfl rfl ho8686 rfl ?_
 refine WL.loadN .r (l' := [.int .i64 x8653.Kind, .int .i64 x8653.From, .int .i64 x8653.To, .int .i64 x8653.Term, .int .i64 x8653.A, .int .i64 x8653.B, .int .i64 x8653.C, .bool x8653.Ok, .slice a8663 x8653.Log.length cap8664]) rfl rfl rfl Try.underlying85 rfl info85 rfl ho8683 rfl rfl ?_
 obtain ⟨x8694, hx8694, hr⟩ := bnd_some hr
 refine GL.callP g.good .r rfl rfl rfl rfl rfl rfl Try.func64 rfl rfl (Nat.le_refl _) (f__impl_Msg_copied_k (x1 := ({ Kind := x8653.Kind, From := x8653.From, To := x8653.To, Term := x8653.Term, A := x8653.A, B := x8653.B, C := x8653.C, Ok := x8653.Ok, Log := x8653.Log } : GMsg)) g hS8682 h8665 hx8694) (fun v n8695 H8696 hn8697 hk8698 hp8699 => ?_)
 obtain ⟨F8704, a8700, cap8701, hX8705, hS8703, rfl, h8702⟩ := hp8699
 have ho8706 := (hk8698 _ (by have := lt8502; omega)).trans ho8685
 have ho8707 := (hk8698 _ (by have := lt8503; omega)).trans ho8686
 have ho8708 := (hk8698 _ (by have := lt8504; omega)).trans ho8687
 have ho8709 := (hk8698 _ (by have := lt8671; omega)).trans ho8683
 have h8710 := OW.keep (n' := n8695) h8688 (by omega) (fun i hi => hk8698 i (OW.id_lt h8688 hi).2)
 have h8711 := OW.keep (n' := n8695) h8689 (by omega) (fun i hi => hk8698 i (OW.id_lt h8689 hi).2)
 have h8712 := OW.keep (n' := n8695) h8690 (by omega) (fun i hi => hk8698 i (OW.id_lt h8690 hi).2)
 have h8713 := OW.keep (n' := n8695) h8691 (by omega) (fun i hi => hk8698 i (OW.id_lt h8691 hi).2)
 have h8714 := OD.keep (n' := n8695) h8692 (by omega) (fun i hi => hk8698 i (OD.id_lt h8692 hi).2)
 have h8715 := OW.keep (n' := n8695) h8693 (by omega) (fun i hi => hk8698 i (OW.id_lt h8693 hi).2)
 have hS8716 : St n0 n8695 H8696 F8704 := ⟨by have := hS8682.lo; omega, hS8703.hb, hS8703.fh⟩
 have fo8717 := (hX8705.eq _ (by have := lt8502; omega)).trans fo8454
 have fo8718 := (hX8705.eq _ (by have := lt8503; omega)).trans fo8463
 have fo8719 := (hX8705.eq _ (by have := lt8504; omega)).trans fo8468
 have fo8720 := (hX8705.eq _ (by have := lt8671; omega)).trans fo8670
 have h8721 := OW.keepF h8710 hX8705.sub (fun i hi => (hX8705.eq i (by have := OW.id_lt h8688 hi; omega)).trans (OW.fnone h8710 hi))
 have h8722 := OW.keepF h8711 hX8705.sub (fun i hi => (hX8705.eq i (by have := OW.id_lt h8689 hi; omega)).trans (OW.fnone h8711 hi))
 have h8723 := OW.keepF h8712 hX8705.sub (fun i hi => (hX8705.eq i (by have := OW.id_lt h8690 hi; omega)).trans (OW.fnone h8712 hi))
 have h8724 := OW.keepF h8713 hX8705.sub (fun i hi => (hX8705.eq i (by have := OW.id_lt h8691 hi; omega)).trans (OW.fnone h8713 hi))
 have h8725 := OD.keepF h8714 hX8705.sub (fun i hi => (hX8705.eq i (by have := OD.id_lt h8692 hi; omega)).trans (OD.fnone h8714 hi))
 have h8726 := OW.keepF h8715 hX8705.sub (fun i hi => (hX8705.eq i (by have := OW.id_lt h8693 hi; omega)).trans (OW.fnone h8715 hi))
 have hE8727 := (hE8450.up (n' := (n8446 + 1)) (by omega)).trans hX8705
 have hlon8695 := hS8716.lo
 refine GL.lit (cs := [.int .i64 x8694.Kind, .int .i64 x8694.From, .int .i64 x8694.To, .int .i64 x8694.Term, .int .i64 x8694.A, .int .i64 x8694.B, .int .i64 x8694.C, .bool x8694.Ok, .slice a8700 x8694.Log.length cap8701]) (xs := ([({ Kind := x8694.Kind, From := x8694.From, To := x8694.To, Term := x8694.Term, A := x8694.A, B := x8694.B, C := x8694.C, Ok := x8694.Ok, Log := x8694.Log } : GMsg)] : List GMsg)) hS8716 .r rfl rfl rfl Try.underlying27 info85 rfl rfl rfl (by decide) (by decide) rfl rfl rfl rfl rfl (RA.cons (cs := [.int .i64 x8694.Kind, .int .i64 x8694.From, .int .i64 x8694.To, .int .i64 x8694.Term, .int .i64 x8694.A, .int .i64 x8694.B, .int .i64 x8694.C, .bool x8694.Ok, .slice a8700 x8694.Log.length cap8701]) (a := (({ Kind := x8694.Kind, From := x8694.From, To := x8694.To, Term := x8694.Term, A := x8694.A, B := x8694.B, C := x8694.C, Ok := x8694.Ok, Log := x8694.Log } : GMsg) : GMsg)) (GMsg.toR (x := ({ Kind := x8694.Kind, From := x8694.From, To := x8694.To, Term := x8694.Term, A := x8694.A, B := x8694.B, C := x8694.C, Ok := x8694.Ok, Log := x8694.Log } : GMsg)) h8702) RA.nil) rfl (fun H8728 hS8729 hO8730 hk8731 => ?_)
 have ho8732 := (hk8731 _ (by have := lt8502; omega)).trans ho8706
 have ho8733 := (hk8731 _ (by have := lt8503; omega)).trans ho8707
 have ho8734 := (hk8731 _ (by have := lt8504; omega)).trans ho8708
 have ho8735 := (hk8731 _ (by have := lt8671; omega)).trans ho8709
 have h8736 := OW.keep (n' := (n8695 + 1)) h8721 (by omega) (fun i hi => hk8731 i (OW.id_lt h8721 hi).2)
 have h8737 := OW.keep (n' := (n8695 + 1)) h8722 (by omega) (fun i hi => hk8731 i (OW.id_lt h8722 hi).2)
 have h8738 := OW.keep (n' := (n8695 + 1)) h8723 (by omega) (fun i hi => hk8731 i (OW.id_lt h8723 hi).2)
 have h8739 := OW.keep (n' := (n8695 + 1)) h8724 (by omega) (fun i hi => hk8731 i (OW.id_lt h8724 hi).2)
 have h8740 := OD.keep (n' := (n8695 + 1)) h8725 (by omega) (fun i hi => hk8731 i (OD.id_lt h8725 hi).2)
 have h8741 := OW.keep (n' := (n8695 + 1)) h8726 (by omega) (fun i hi => hk8731 i (OW.id_lt h8726 hi).2)
 have h8742 := OW.lower (lo' := n0) hO8730 (by omega)
 have hlon86951 := hS8729.lo
 obtain ⟨hc8754, hr⟩ := chk_some hr
 refine GL.append (α := GMsg) hS8729 .w rfl rfl rfl Try.underlying27 Try.underlying27 rfl info85 rfl rfl rfl (by decide) rfl rfl h8738 (by omega) (by omega) (OW.src h8742) hc8754 (fun a8755 cap8756 n8757 H8758 hS8759 hn8760 hO8761 hk8762 hid8763 => ?_)
 have ho8764 := (hk8762 _ (by have := lt8502; omega) ap8476).trans ho8732
 have ho8765 := (hk8762 _ (by have := lt8503; omega) ap8477).trans ho8733
 have ho8766 := (hk8762 _ (by have := lt8504; omega) ap8478).trans ho8734
 have ho8767 := (hk8762 _ (by have := lt8671; omega) (Ap.alloc (OW.hb h8459))).trans ho8735
 have h8768 := OW.keep h8736 hn8760 (fun i hi => hk8762 i (OW.id_lt h8736 hi).2 (fun hj => ap8479 _ hj hi))
 have h8769 := OW.keep h8737 hn8760 (fun i hi => hk8762 i (OW.id_lt h8737 hi).2 (fun hj => ap8480 _ hj hi))
 have h8770 := OW.keep h8739 hn8760 (fun i hi => hk8762 i (OW.id_lt h8739 hi).2 (fun hj => (Ap.sym ap8486) _ hj hi))
 have h8771 := OD.keep h8740 hn8760 (fun i hi => hk8762 i (OD.id_lt h8740 hi).2 (fun hj => (Ap.sym ap8492) _ hj hi))
 have h8772 := OW.keep h8741 hn8760 (fun i hi => hk8762 i (OW.id_lt h8741 hi).2 (fun hj => (Ap.sym ap8499) _ hj hi))
 have h8773 := OW.keep h8742 hn8760 (fun i hi => hk8762 i (OW.id_lt h8742 hi).2 (fun hj => (Ap.sym (Ap.fresh (OW.lb hO8730) (OW.hb h8723))) _ hj hi))
 have hlon8757 := hS8759.lo
 refine WL.fieldAddr .r rfl rfl rfl Try.underlying30 rfl info27 rfl rfl ?_
 refine GL.store hS8759 .w (vc := [.slice a8755 (xs8458 ++ ([({ Kind := x8694.Kind, From := x8694.From, To := x8694.To, Term := x8694.Term, A := x8694.A, B := x8694.B, C := x8694.C, Ok := x8694.Ok, Log := x8694.Log } : GMsg)] : List GMsg)).length cap8756]) (c' := [.slice a5627 xs5629.length cap5628, .slice a8755 (xs8458 ++ ([({ Kind := x8694.Kind, From := x8694.From, To := x8694.To, Term := x8694.Term, A := x8694.A, B := x8694.B, C := x8694.C, Ok := x8694.Ok, Log := x8694.Log } : GMsg)] : List GMsg)).length cap8756, .slice a40 x34.length cap41, .bool x1.Conflict]) rfl rfl rfl info27 rfl rfl rfl rfl ho8765 fo8718 (Nat.le_of_ble_eq_true rfl) (by omega) (one1 rfl) rfl (fun H8785 hS8786 ho8787 hk8788 => ?_)
 have ho8789 := (hk8788 _ (by omega)).trans ho8764
 have ho8790 := (hk8788 _ (by omega)).trans ho8766
 have ho8791 := (hk8788 _ (by omega)).trans ho8767
 have h8792 := OW.keep h8768 (Nat.le_refl _) (fun i hi => hk8788 i (fun hj => ap8470 (hj ▸ hi)))
 have h8793 := OW.keep h8769 (Nat.le_refl _) (fun i hi => hk8788 i (fun hj => ap8473 (hj ▸ hi)))
 have h8794 := OW.keep h8770 (Nat.le_refl _) (fun i hi => hk8788 i (fun hj => ap8482 (hj ▸ hi)))
 have h8795 := OD.keep h8771 (Nat.le_refl _) (fun i hi => hk8788 i (fun hj => ap8488 (hj ▸ hi)))
 have h8796 := OW.keep h8772 (Nat.le_refl _) (fun i hi => hk8788 i (fun hj => ap8495 (hj ▸ hi)))
 have h8797 := OW.keep h8773 (Nat.le_refl _) (fun i hi => hk8788 i (fun hj => (Ap.fresh0 (OW.lb hO8730) (by have := lt8503; omega)) (hj ▸ hi)))
 have h8798 := OW.keep hO8761 (Nat.le_refl _) (fun i hi => hk8788 i (fun hj => (Ap.new0 hid8763 (by have := lt8503; omega) ap8477) (hj ▸ hi)))
 refine WL.nil ?_
 with_reducible refine Ex.blk_norm ?_
 refine Ex.thn_norm ?_
 with_reducible refine W.region ?_
 obtain ⟨hc8799, hr⟩ := chk_some hr
 refine WL.addI .nil rfl rfl rfl rfl rfl hc8799.1 hc8799.2 ?_
 refine WL.move .nil rfl rfl rfl rfl ?_
 refine WL.nil ?_
 refine Ex.thn_norm ?_
 exact ⟨[(2, .pointer (some ⟨n0, 0, none⟩)), (3, .pointer (some ⟨n35, 0, none⟩)), (53, .slice a7 x1.Net.length cap8), (54, .int .i64 (x1.Net.length : Int)), (55, .int .i64 (x8452 + 1))], (Fr.le_cons rfl (Fr.le_cons rfl (Fr.le_cons rfl (Fr.le_cons rfl (Fr.le_cons rfl Fr.le_nil))))), (x8452 + 1), a8755, cap8756, (xs8458 ++ ([({ Kind := x8694.Kind, From := x8694.From, To := x8694.To, Term := x8694.Term, A := x8694.A, B := x8694.B, C := x8694.C, Ok := x8694.Ok, Log := x8694.Log } : GMsg)] : List GMsg)), S8465, F8704, rfl, hS8786, (hE8727.up (by omega)), ho8789, fo8717, ho8787, fo8718, ho8790, fo8719, h8792, h8793, h8798, h8794, h8795, h8796, ap8469, ap8470, ap8471, ap8472, ap8473, ap8474, ap8475, (Ap.new0 hid8763 (by have := lt8502; omega) ap8476), (Ap.new0 hid8763 (by have := lt8503; omega) ap8477), (Ap.new0 hid8763 (by have := lt8504; omega) ap8478), (Ap.new hid8763 (OW.hb h8736) ap8479), (Ap.new hid8763 (OW.hb h8737) ap8480), ap8481, ap8482, ap8483, ap8484, ap8485, (Ap.sym (Ap.new hid8763 (OW.hb h8739) (Ap.sym ap8486))), ap8487, ap8488, ap8489, ap8490, ap8491, (Ap.sym (Ap.new hid8763 (OD.hb h8740) (Ap.sym ap8492))), ap8493, ap8494, ap8495, ap8496, ap8497, ap8498, (Ap.sym (Ap.new hid8763 (OW.hb h8741) (Ap.sym ap8499))), ap8500, ap8501, hr⟩
 }
 {
 replace hr := ite_neg hr hc8506
 with_reducible refine W.exit ?_
 with_reducible refine Ex.thn_ex ?_
 with_reducible refine Ex.thn_ex ?_
 with_reducible refine Ex.blk_here ?_
 refine Ex.thn_norm ?_
 with_reducible refine W.seq ?_
 with_reducible refine W.region ?_
 refine WL.loadN .nil (l' := [.slice a5627 xs5629.length cap5628, .slice a8456 xs8458.length cap8457, .slice a40 x34.length cap41, .bool x1.Conflict]) rfl rfl rfl Try.underlying30 rfl info30 rfl ho8462 rfl rfl ?_
 refine GL.store hS8449 .nil (vc := [.slice a5627 xs5629.length cap5628, .slice a8456 xs8458.length cap8457, .slice a40 x34.length cap41, .bool x1.Conflict]) (c' := [.slice a5627 xs5629.length cap5628, .slice a8456 xs8458.length cap8457, .slice a40 x34.length cap41, .bool x1.Conflict]) rfl rfl rfl info30 rfl rfl rfl rfl ho8453 fo8454 (Nat.le_of_ble_eq_true rfl) (by omega) (by repeat' (first | exact List.forall_mem_nil _ | refine List.forall_mem_cons.2 ⟨?_, ?_⟩ | rfl)) rfl (fun H8800 hS8801 ho8802 hk8803 => ?_)
 have ho8804 := (hk8803 _ (by omega)).trans ho8462
 have ho8805 := (hk8803 _ (by omega)).trans ho8467
 have h8806 := OW.keep h8451 (Nat.le_refl _) (fun i hi => hk8803 i (fun hj => ap8469 (hj ▸ hi)))
 have h8807 := OW.keep h8455 (Nat.le_refl _) (fun i hi => hk8803 i (fun hj => ap8472 (hj ▸ hi)))
 have h8808 := OW.keep h8459 (Nat.le_refl _) (fun i hi => hk8803 i (fun hj => ap8476 (hj ▸ hi)))
 have h8809 := OW.keep h8461 (Nat.le_refl _) (fun i hi => hk8803 i (fun hj => ap8481 (hj ▸ hi)))
 have h8810 := OD.keep h8464 (Nat.le_refl _) (fun i hi => hk8803 i (fun hj => ap8487 (hj ▸ hi)))
 have h8811 := OW.keep h8466 (Nat.le_refl _) (fun i hi => hk8803 i (fun hj => ap8494 (hj ▸ hi)))
 refine WL.nil ?_
 refine Ex.thn_norm ?_
 with_reducible refine W.ret ?_
 obtain ⟨F8812, hS8813, hle8814, h8815, hf8816⟩ := OW.freeze h8807 hS8801
 have fo8817 := (hf8816 _ ap8472).trans fo8454
 have fo8818 := (hf8816 _ ap8473).trans fo8463
 have fo8819 := (hf8816 _ ap8474).trans fo8468
 have h8820 := OW.keepF h8806 hle8814 (fun i hi => (hf8816 i (fun hj => ap8475 i hj hi)).trans (OW.fnone h8806 hi))
 have h8821 := OW.keepF h8808 hle8814 (fun i hi => (hf8816 i (fun hj => (Ap.sym ap8480) i hj hi)).trans (OW.fnone h8808 hi))
 have h8822 := OW.keepF h8809 hle8814 (fun i hi => (hf8816 i (fun hj => (Ap.sym ap8485) i hj hi)).trans (OW.fnone h8809 hi))
 have h8823 := OD.keepF h8810 hle8814 (fun i hi => (hf8816 i (fun hj => (Ap.sym ap8491) i hj hi)).trans (OD.fnone h8810 hi))
 have h8824 := OW.keepF h8811 hle8814 (fun i hi => (hf8816 i (fun hj => (Ap.sym ap8498) i hj hi)).trans (OW.fnone h8811 hi))
 have hE8825 : Ext n0 F0 n8446 F8812 := ⟨Nat.le_trans hE8450.le (by omega), hE8450.sub.trans hle8814, fun i hi => (hf8816 i (fun hj => by have := OW.id_lt h8807 hj; omega)).trans (hE8450.eq i hi)⟩
 obtain ⟨F8826, hS8827, hle8828, h8829, hf8830⟩ := OW.freeze h8821 hS8813
 have fo8831 := (hf8830 _ ap8476).trans fo8817
 have fo8832 := (hf8830 _ ap8477).trans fo8818
 have fo8833 := (hf8830 _ ap8478).trans fo8819
 have h8834 := OW.keepF h8820 hle8828 (fun i hi => (hf8830 i (fun hj => ap8479 i hj hi)).trans (OW.fnone h8820 hi))
 have h8835 := OW.keepF h8822 hle8828 (fun i hi => (hf8830 i (fun hj => (Ap.sym ap8486) i hj hi)).trans (OW.fnone h8822 hi))
 have h8836 := OD.keepF h8823 hle8828 (fun i hi => (hf8830 i (fun hj => (Ap.sym ap8492) i hj hi)).trans (OD.fnone h8823 hi))
 have h8837 := OW.keepF h8824 hle8828 (fun i hi => (hf8830 i (fun hj => (Ap.sym ap8499) i hj hi)).trans (OW.fnone h8824 hi))
 have hE8838 : Ext n0 F0 n8446 F8826 := ⟨Nat.le_trans hE8825.le (by omega), hE8825.sub.trans hle8828, fun i hi => (hf8830 i (fun hj => by have := OW.id_lt h8821 hj; omega)).trans (hE8825.eq i hi)⟩
 obtain ⟨F8839, hS8840, hle8841, h8842, hf8843⟩ := OW.freeze h8835 hS8827
 have fo8844 := (hf8843 _ ap8481).trans fo8831
 have fo8845 := (hf8843 _ ap8482).trans fo8832
 have fo8846 := (hf8843 _ ap8483).trans fo8833
 have h8847 := OW.keepF h8834 hle8841 (fun i hi => (hf8843 i (fun hj => ap8484 i hj hi)).trans (OW.fnone h8834 hi))
 have h8848 := OD.keepF h8836 hle8841 (fun i hi => (hf8843 i (fun hj => (Ap.sym ap8493) i hj hi)).trans (OD.fnone h8836 hi))
 have h8849 := OW.keepF h8837 hle8841 (fun i hi => (hf8843 i (fun hj => (Ap.sym ap8500) i hj hi)).trans (OW.fnone h8837 hi))
 have hE8850 : Ext n0 F0 n8446 F8839 := ⟨Nat.le_trans hE8838.le (by omega), hE8838.sub.trans hle8841, fun i hi => (hf8843 i (fun hj => by have := OW.id_lt h8835 hj; omega)).trans (hE8838.eq i hi)⟩
 obtain rfl := Option.some.inj hr
 exact ⟨.inr rfl, _, (.cons (.cellN (l := [.slice a5627 xs5629.length cap5628, .slice a8456 xs8458.length cap8457, .slice a40 x34.length cap41, .bool x1.Conflict]) rfl Try.underlying30 rfl info30 ho8802 rfl rfl) .nil), ⟨F8839, a5627, cap5628, a8456, cap8457, a40, cap41, (hE8850.up (by omega)), hS8840, rfl, ((h8815.mono hle8828).mono hle8841), (h8829.mono hle8841), h8842⟩⟩
 }
 }
 }
 }
end Go.Proofs.YtlpcdcpcfeaecaaAb
