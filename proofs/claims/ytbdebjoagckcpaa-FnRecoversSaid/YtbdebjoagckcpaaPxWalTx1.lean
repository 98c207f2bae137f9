import Derived.Test.YtbdebjoagckcpaaPxWalTx0
import Derived.Test.YtbdebjoagckcpaaPxWalD
import Derived.Test.YtbdebjoagckcpaaAbInfo
import Derived.KernelRfl
set_option linter.all false
set_option maxRecDepth 20000
namespace Go.Proofs.YtbdebjoagckcpaaAb
open Go Go.Proofs
theorem f_impl_Recover_k {Δ : Prims} (g : Env Try.prog Δ) {lo n0 : Nat} {H0 F0 : Heap} (hS : St lo n0 H0 F0) {a2 : Option Addr} {cap3 : Nat} {xs1 : (List UInt8)} (h4 : SR F0 (.slice a2 xs1.length cap3) xs1) {res : (GWal × Int)} (hr : f_impl_Recover xs1 = some res) :
    C Try.prog Δ n0 14 [.slice a2 xs1.length cap3] n0 H0 (fun v n H => ∃ (F : Heap) (ra1 : Option Addr) (rcap2 : Nat), Ext n0 F0 n F ∧ St n0 n H F ∧ v = .tuple #[.agg [.int .i64 res.1.Term, .int .i64 res.1.Vote, .int .i64 res.1.Base, .int .i64 res.1.BaseTerm, .slice ra1 res.1.Log.length rcap2, .int .i64 res.1.Good].toArray, .int .i64 res.2] ∧ SR F (.slice ra1 res.1.Log.length rcap2) res.1.Log) := by
  refine C.body Try.func14 rfl rfl ?_
  unfold f_impl_Recover at hr
  have hS0 : St n0 n0 H0 F0 := hS.low (Nat.le_refl _)
  have hE0 := Ext.refl n0 F0
  have hlo0 := hS0.lo
  with_reducible refine W.seq ?_
  with_reducible refine W.region ?_
  refine GL.alloc hS0 .nil (zc := [.int .i64 0, .int .i64 0, .int .i64 0, .int .i64 0, .slice none 0 0, .int .i64 0]) rfl rfl rfl info40 rfl rfl rfl (fun H5 hS6 ho7 hk8 => ?_)
  have fo9 := hS0.fnone (Nat.le_refl _)
  have hlon01 := hS6.lo
  have lt10 : n0 < (n0 + 1) := by omega
  refine WL.assign .nil rfl rfl rfl rfl ?_
  with_reducible refine WL.nil ?_
  with_reducible refine Ex.thn_norm ?_
  with_reducible refine W.seq ?_
  with_reducible refine W.seq ?_
  with_reducible refine W.region ?_
  refine WL.move .nil rfl rfl rfl rfl ?_
  obtain ⟨x11, hx11, hr⟩ := bnd_some hr
  refine GL.callP g.good .nil rfl rfl rfl rfl rfl rfl Try.func44 rfl rfl hS6.lo (f_impl_longBytes_k  g hS6 h4 hx11) (fun v n12 H13 hn14 hk15 hp16 => ?_)
  obtain ⟨hS17, rfl⟩ := hp16
  have ho18 := (hk15 _ (by have := lt10; omega)).trans ho7
  have hS19 : St n0 n12 H13 F0 := ⟨by have := hS6.lo; omega, hS17.hb, hS17.fh⟩
  have hlon12 := hS19.lo
  refine WL.assign .nil rfl rfl rfl rfl ?_
  with_reducible refine WL.nil ?_
  with_reducible refine Ex.thn_norm ?_
  with_reducible refine W.seq ?_
  with_reducible refine W.region ?_
  refine WL.move .nil rfl rfl rfl rfl ?_
  refine WL.bin .nil rfl rfl rfl rfl rfl rfl ?_
  with_reducible refine WL.nil ?_
  with_reducible refine Ex.thn_norm ?_
  refine W.condN rfl (fun hc25 => ?_) (fun hc25 => ?_)
  · replace hr := ite_neg hr hc25
    with_reducible refine W.seq ?_
    with_reducible refine W.region ?_
    refine WL.buildL .nil (cells := [.int .i64 0, .int .i64 0, .int .i64 0, .int .i64 0, .slice none 0 0, .int .i64 0]) rfl rfl rfl Try.underlying40 info40 rfl rfl rfl (by simp only [List.mapM_cons, List.mapM_nil, info3, info3, info3, info3, info30, info3]; rfl) rfl (by first | rfl | ((conv => lhs; simp [splice, fillL, cells_int, cells_bool, cells_string, cells_str, cells_slice, cells_ptr, cells_map, cells_func, cells_nilFunc, cells_nilIface, cells_iface, cells_agg, cells_u8]) <;> rfl)) ?_
    refine WL.move .nil rfl rfl rfl rfl ?_
    refine GL.store hS19 .nil (vc := [.int .i64 0, .int .i64 0, .int .i64 0, .int .i64 0, .slice none 0 0, .int .i64 0]) (c' := [.int .i64 0, .int .i64 0, .int .i64 0, .int .i64 0, .slice none 0 0, .int .i64 0]) rfl rfl rfl info40 rfl rfl rfl rfl ho18 fo9 (Nat.le_of_ble_eq_true rfl) (by omega) (by repeat' (first | exact List.forall_mem_nil _ | refine List.forall_mem_cons.2 ⟨?_, ?_⟩ | rfl)) rfl (fun H26 hS27 ho28 hk29 => ?_)
    refine WL.assign .nil rfl rfl rfl rfl ?_
    with_reducible refine WL.nil ?_
    with_reducible refine Ex.thn_norm ?_
    with_reducible refine W.ret ?_
    with_reducible refine Ex.thn_ret ?_
    obtain rfl := Option.some.inj hr
    exact ⟨.inr rfl, _, (.cons (.cellN (l := [.int .i64 0, .int .i64 0, .int .i64 0, .int .i64 0, .slice none 0 0, .int .i64 0]) rfl Try.underlying40 rfl info40 ho28 rfl rfl) (.cons (.tmp rfl) .nil)), ⟨F0, none, 0, (hE0.up (by omega)), hS27, rfl, SR.nil⟩⟩
  · replace hr := ite_pos hr hc25
    with_reducible refine W.skip ?_
    with_reducible refine Ex.thn_norm ?_
    with_reducible refine W.seq ?_
    with_reducible refine W.region ?_
    refine WL.buildL .nil (cells := [.int .i64 0, .int .i64 0, .int .i64 0, .int .i64 0, .slice none 0 0, .int .i64 0]) rfl rfl rfl Try.underlying40 info40 rfl rfl rfl (by simp only [List.mapM_cons, List.mapM_nil, info3, info3, info3, info3, info30, info3]; rfl) rfl (by first | rfl | ((conv => lhs; simp [splice, fillL, cells_int, cells_bool, cells_string, cells_str, cells_slice, cells_ptr, cells_map, cells_func, cells_nilFunc, cells_nilIface, cells_iface, cells_agg, cells_u8]) <;> rfl)) ?_
    refine GL.alloc hS19 .nil (zc := [.int .i64 0, .int .i64 0, .int .i64 0, .int .i64 0, .slice none 0 0, .int .i64 0]) rfl rfl rfl info40 rfl rfl rfl (fun H30 hS31 ho32 hk33 => ?_)
    have fo34 := hS19.fnone (Nat.le_refl _)
    have ho36 := (hk33 _ (by have := lt10; omega)).trans ho18
    have hlon121 := hS31.lo
    have lt35 : n12 < (n12 + 1) := by omega
    refine GL.store hS31 .nil (vc := [.int .i64 0, .int .i64 0, .int .i64 0, .int .i64 0, .slice none 0 0, .int .i64 0]) (c' := [.int .i64 0, .int .i64 0, .int .i64 0, .int .i64 0, .slice none 0 0, .int .i64 0]) rfl rfl rfl info40 rfl rfl rfl rfl ho32 fo34 (Nat.le_of_ble_eq_true rfl) (by omega) (by repeat' (first | exact List.forall_mem_nil _ | refine List.forall_mem_cons.2 ⟨?_, ?_⟩ | rfl)) rfl (fun H37 hS38 ho39 hk40 => ?_)
    have ho41 := (hk40 _ (by omega)).trans ho36
    with_reducible refine WL.nil ?_
    with_reducible refine Ex.thn_norm ?_
    with_reducible refine W.block ?_
    refine W.loopF (fun k0 fr n H => ∃ (x385 : Int) (x386 : Int) (x387 : Int) (x388 : Int) (a389 : Option Addr) (cap390 : Nat) (xs391 : (List GRec)) (x394 : Int) (F : Heap), fr = [(0, .slice a2 xs1.length cap3), (2, .pointer (some ⟨n0, 0, none⟩)), (5, .pointer (some ⟨n12, 0, none⟩))] ∧ St n0 n H F ∧ Ext n0 F0 n F ∧ H n0 = some (.row 1 [.int .i64 0, .int .i64 0, .int .i64 0, .int .i64 0, .slice none 0 0, .int .i64 0]) ∧ F n0 = none ∧ H n12 = some (.row 1 [.int .i64 x385, .int .i64 x386, .int .i64 x387, .int .i64 x388, .slice a389 xs391.length cap390, .int .i64 x394]) ∧ F n12 = none ∧ SR F (.slice a2 xs1.length cap3) xs1 ∧ OW n0 n H F (.slice a389 xs391.length cap390) xs391 ∧ idOf (.slice a389 xs391.length cap390) ≠ some n0 ∧ idOf (.slice a389 xs391.length cap390) ≠ some n12 ∧ f_impl_Recover_L0 xs1 k0 x385 x386 x387 x388 xs391 x394 = some res) BIG (fr0 := [(0, .slice a2 xs1.length cap3), (2, .pointer (some ⟨n0, 0, none⟩)), (5, .pointer (some ⟨n12, 0, none⟩))]) (Fr.le_cons rfl (Fr.le_cons rfl (Fr.le_cons rfl Fr.le_nil))) ?_ ?_ ?_
    · exact ⟨0, 0, 0, 0, none, 0, [], 0, F0, rfl, hS38, (hE0.up (by omega)), ho41, fo9, ho39, fo34, h4, OW.nil, (fun h => by cases h), (fun h => by cases h), hr⟩
    · intro fr n H hI
      obtain ⟨x385, x386, x387, x388, a389, cap390, xs391, x394, F379, hfr, hS380, hE381, ho383, fo384, ho395, fo396, h382, h392, ap397, ap398, hr⟩ := hI
      rw [f_impl_Recover_L0] at hr
      cases hr
    · intro k0 _ n377 H378 hI
      obtain ⟨x385, x386, x387, x388, a389, cap390, xs391, x394, F379, rfl, hS380, hE381, ho383, fo384, ho395, fo396, h382, h392, ap397, ap398, hr⟩ := hI
      have lt399 := hS380.lt ho383
      have lt400 := hS380.lt ho395
      have hlen377 := hE381.le
      have hlon377 := hS380.lo
      rw [f_impl_Recover_L0] at hr
      with_reducible refine W.block ?_
      with_reducible refine W.seq ?_
      with_reducible refine W.region ?_
      refine WL.move .nil rfl rfl rfl rfl ?_
      refine WL.fieldAddr .nil rfl rfl rfl Try.underlying40 rfl info3 rfl rfl ?_
      refine WL.load1 .nil rfl rfl rfl Try.underlying3 rfl rfl ho395 rfl ?_
      obtain ⟨xs401, hxs401, hr⟩ := bnd_some hr
      refine GL.slice .nil rfl rfl rfl Try.underlying24 info5 rfl rfl h382 hS380.fh ⟨_, rfl⟩ rfl hxs401 (fun a402 cap403 hid404 h405 => ?_)
      obtain ⟨x406, hx406, hr⟩ := bnd_some hr
      have hb412 := fun b hb => (OW.id_lt (i := b) h392 hb).2
      refine GL.callP g.good .nil rfl rfl rfl rfl rfl rfl Try.func45 rfl rfl hS380.lo (f_impl_readFrame_k  g hS380 h405 hx406) (fun v n407 H408 hn409 hk410 hp411 => ?_)
      obtain ⟨a413, cap414, hS416, rfl, h415⟩ := hp411
      have ho417 := (hk410 _ (by have := lt399; omega)).trans ho383
      have ho418 := (hk410 _ (by have := lt400; omega)).trans ho395
      have h419 := OW.keep (n' := n407) h392 (by omega) (fun i hi => hk410 i (OW.id_lt h392 hi).2)
      have hS420 : St n0 n407 H408 F379 := ⟨by have := hS380.lo; omega, hS416.hb, hS416.fh⟩
      have hlon407 := hS420.lo
      have h421 := OW.lower (lo' := n0) h415 (by omega)
      have ap423 : idOf (.slice a413 x406.1.length cap414) ≠ some n0 := fun hj => by have := (OW.id_lt h415 hj).1; have := lt399; omega
      have ap424 : idOf (.slice a413 x406.1.length cap414) ≠ some n12 := fun hj => by have := (OW.id_lt h415 hj).1; have := lt400; omega
      have ap425 : ∀ b, idOf (.slice a413 x406.1.length cap414) = some b → idOf (.slice a389 xs391.length cap390) ≠ some b := fun b hj hi => by have := (OW.id_lt h415 hj).1; have := hb412 b hi; omega
      refine WL.move .nil rfl rfl rfl rfl ?_
      refine WL.extract .nil rfl rfl rfl rfl rfl ?_
      refine WL.extract .nil rfl rfl rfl rfl rfl ?_
      refine WL.extract .nil rfl rfl rfl rfl rfl ?_
      refine WL.assign .nil rfl rfl rfl rfl ?_
      refine WL.assign .nil rfl rfl rfl rfl ?_
      refine WL.assign .nil rfl rfl rfl rfl ?_
      with_reducible refine WL.nil ?_
      with_reducible refine Ex.thn_norm ?_
      with_reducible refine W.seq ?_
      with_reducible refine W.seq ?_
      refine W.cut (fun fr n H => ∃ (x473 : Bool) (x476 : Int) (x477 : Int) (x478 : Int) (x479 : Int) (a480 : Option Addr) (cap481 : Nat) (xs482 : (List GRec)) (x485 : Int) (F : Heap), fr = [(0, .slice a2 xs1.length cap3), (2, .pointer (some ⟨n0, 0, none⟩)), (5, .pointer (some ⟨n12, 0, none⟩)), (7, .int .i64 x406.2.1), (35, .bool x473)] ∧ St n0 n H F ∧ Ext n0 F0 n F ∧ H n0 = some (.row 1 [.int .i64 0, .int .i64 0, .int .i64 0, .int .i64 0, .slice none 0 0, .int .i64 0]) ∧ F n0 = none ∧ H n12 = some (.row 1 [.int .i64 x476, .int .i64 x477, .int .i64 x478, .int .i64 x479, .slice a480 xs482.length cap481, .int .i64 x485]) ∧ F n12 = none ∧ SR F (.slice a2 xs1.length cap3) xs1 ∧ OW n0 n H F (.slice a480 xs482.length cap481) xs482 ∧ idOf (.slice a480 xs482.length cap481) ≠ some n0 ∧ idOf (.slice a480 xs482.length cap481) ≠ some n12 ∧ f_impl_Recover_J1 x406 (f_impl_Recover_L0 xs1 k0) x473 x476 x477 x478 x479 xs482 x485 = some res) ?_ ?_
      · with_reducible refine W.region ?_
        refine WL.move .nil rfl rfl rfl rfl ?_
        refine WL.bin .nil rfl rfl rfl rfl rfl rfl ?_
        refine WL.move .nil rfl rfl rfl rfl ?_
        refine WL.guardN rfl rfl rfl (fun hg521 => ?_) (fun hg521 => ?_)
        · replace hr := ite_neg hr hg521
          refine WL.skip .nil rfl rfl ?_
          refine WL.skip .nil rfl rfl ?_
          refine WL.pick .nil rfl rfl rfl rfl rfl ?_
          refine WL.move .nil rfl rfl rfl rfl ?_
          refine WL.skip .nil rfl rfl ?_
          refine WL.skip .nil rfl rfl ?_
          refine WL.skip .nil rfl rfl ?_
          refine WL.pick .nil rfl rfl rfl rfl rfl ?_
          with_reducible refine WL.nil ?_
          with_reducible refine Ex.thn_norm ?_
          exact ⟨[(0, .slice a2 xs1.length cap3), (2, .pointer (some ⟨n0, 0, none⟩)), (5, .pointer (some ⟨n12, 0, none⟩)), (7, .int .i64 x406.2.1), (35, .bool true)], (Fr.le_cons rfl (Fr.le_cons rfl (Fr.le_cons rfl (Fr.le_cons rfl (Fr.le_cons rfl Fr.le_nil))))), true, x385, x386, x387, x388, a389, cap390, xs391, x394, F379, rfl, hS420, (hE381.up (by omega)), ho417, fo384, ho418, fo396, h382, h419, ap397, ap398, hr⟩
        · replace hr := ite_pos hr hg521
          refine WL.move .nil rfl rfl rfl rfl ?_
          refine WL.bin .nil rfl rfl rfl rfl rfl rfl ?_
          refine WL.pick .nil rfl rfl rfl rfl rfl ?_
          refine WL.move .nil rfl rfl rfl rfl ?_
          refine WL.guardD rfl rfl rfl (fun hg522 => ?_) (fun hg522 => ?_)
          · replace hr := ite_pos hr hg522
            refine WL.skip .nil rfl rfl ?_
            refine WL.skip .nil rfl rfl ?_
            refine WL.skip .nil rfl rfl ?_
            refine WL.pick .nil rfl rfl rfl rfl rfl ?_
            with_reducible refine WL.nil ?_
            with_reducible refine Ex.thn_norm ?_
            exact ⟨[(0, .slice a2 xs1.length cap3), (2, .pointer (some ⟨n0, 0, none⟩)), (5, .pointer (some ⟨n12, 0, none⟩)), (7, .int .i64 x406.2.1), (35, .bool true)], (Fr.le_cons rfl (Fr.le_cons rfl (Fr.le_cons rfl (Fr.le_cons rfl (Fr.le_cons rfl Fr.le_nil))))), true, x385, x386, x387, x388, a389, cap390, xs391, x394, F379, rfl, hS420, (hE381.up (by omega)), ho417, fo384, ho418, fo396, h382, h419, ap397, ap398, hr⟩
          · replace hr := ite_neg hr hg522
            refine WL.move .nil rfl rfl rfl rfl ?_
            obtain ⟨F523, hS524, hle525, h526, hf527⟩ := OW.freeze h421 hS420
            have fo528 := (hf527 _ ap423).trans fo384
            have fo529 := (hf527 _ ap424).trans fo396
            have h530 := OW.keepF h419 hle525 (fun i hi => (hf527 i (fun hj => ap425 i hj hi)).trans (OW.fnone h419 hi))
            have hE531 : Ext n0 F0 n407 F523 := ⟨Nat.le_trans hE381.le (by omega), hE381.sub.trans hle525, fun i hi => (hf527 i (fun hj => by have := OW.id_lt h421 hj; omega)).trans (hE381.eq i hi)⟩
            obtain ⟨x532, hx532, hr⟩ := bnd_some hr
            have hb542 := fun b hb => (OW.id_lt (i := b) h530 hb).2
            refine GL.callIO g .nil (fun i => (F523 i).isSome = true ∨ i = n12 ∨ idOf (.slice a389 xs391.length cap390) = some i) rfl rfl rfl rfl rfl rfl Try.func46 rfl rfl (Nat.le_refl _) hS524.lo (f_impl_Wal_take_k (x1 := ({ Term := x385, Vote := x386, Base := x387, BaseTerm := x388, Log := xs391, Good := x394 } : GWal)) g (St.vis hS524 (fun i hi => .inl hi)) (vis_get ho418 (.inr (.inl rfl))) fo529 (by omega) (OW.vis h530 (fun i hi => (.inr (.inr (hi))))) h526 ap398 hx532) (fun v n533 H534 H535 hn536 hp537 hle538 hnew539 hk540 hd541 => ?_)
            obtain ⟨F547, a543, cap544, hX548, hS546, ho549, rfl, h545, ap550⟩ := hp537
            have hS551 : St n0 n533 H534 _ := ⟨hS546.lo, fun i hi => (hnew539 i (by omega)).trans (hS546.hb i hi), hS546.fh.trans hle538⟩
            have ho552 := (hk540 _ (by have := lt399; omega) (fun hs => by
      rcases hs with h | h | h
      · rw [fo528] at h; cases h
      · omega
      · exact ap397 h)).trans ho417
            have fo553 := (hX548.eq _ (by have := lt399; omega)).trans fo528
            have fo554 := (hX548.eq _ (by have := lt400; omega)).trans fo529
            have hE555 := (hE531.up (n' := n407) (by omega)).trans hX548
            have ho556 := hle538 _ _ ho549
            have h558 := OW.le h545 hle538
            have ap559 : idOf (.slice a543 x532.1.Log.length cap544) ≠ some n0 := fun hj => (OW.after h545 hd541 hj).elim (fun h => by have := lt399; omega) (fun hs => by
      rcases hs with h | h | h
      · rw [fo528] at h; cases h
      · omega
      · exact ap397 h)
            have hlon533 := hS551.lo
            have lt560 := hS551.lt ho552
            have lt561 := hS551.lt ho556
            refine WL.not .nil rfl rfl rfl rfl ?_
            refine WL.pick .nil rfl rfl rfl rfl rfl ?_
            with_reducible refine WL.nil ?_
            with_reducible refine Ex.thn_norm ?_
            exact ⟨[(0, .slice a2 xs1.length cap3), (2, .pointer (some ⟨n0, 0, none⟩)), (5, .pointer (some ⟨n12, 0, none⟩)), (7, .int .i64 x406.2.1), (35, .bool (!x532.2))], (Fr.le_cons rfl (Fr.le_cons rfl (Fr.le_cons rfl (Fr.le_cons rfl (Fr.le_cons rfl Fr.le_nil))))), (!x532.2), x532.1.Term, x532.1.Vote, x532.1.Base, x532.1.BaseTerm, a543, cap544, x532.1.Log, x532.1.Good, F547, rfl, hS551, hE555, ho552, fo553, ho556, fo554, ((h382.mono hle525).mono hX548.sub), h558, ap559, ap550, hr⟩
      · intro _ n467 H468 hI
        obtain ⟨x473, x476, x477, x478, x479, a480, cap481, xs482, x485, F469, rfl, hS470, hE471, ho474, fo475, ho486, fo487, h472, h483, ap488, ap489, hr⟩ := hI
        have lt490 := hS470.lt ho474
        have lt491 := hS470.lt ho486
        have hlen467 := hE471.le
        have hlon467 := hS470.lo
        unfold f_impl_Recover_J1 at hr
        refine W.cond rfl (fun hc499 => ?_) (fun hc499 => ?_)
        · replace hr := iteB_pos hr hc499
          with_reducible refine W.seq ?_
          with_reducible refine W.region ?_
          refine WL.loadN .nil (l' := [.int .i64 x476, .int .i64 x477, .int .i64 x478, .int .i64 x479, .slice a480 xs482.length cap481, .int .i64 x485]) rfl rfl rfl Try.underlying40 rfl info40 rfl ho486 rfl rfl ?_
          refine GL.store hS470 .nil (vc := [.int .i64 x476, .int .i64 x477, .int .i64 x478, .int .i64 x479, .slice a480 xs482.length cap481, .int .i64 x485]) (c' := [.int .i64 x476, .int .i64 x477, .int .i64 x478, .int .i64 x479, .slice a480 xs482.length cap481, .int .i64 x485]) rfl rfl rfl info40 rfl rfl rfl rfl ho474 fo475 (Nat.le_of_ble_eq_true rfl) (by omega) (by repeat' (first | exact List.forall_mem_nil _ | refine List.forall_mem_cons.2 ⟨?_, ?_⟩ | rfl)) rfl (fun H500 hS501 ho502 hk503 => ?_)
          have ho504 := (hk503 _ (by omega)).trans ho486
          have h505 := OW.keep h483 (Nat.le_refl _) (fun i hi => hk503 i (fun hj => ap488 (hj ▸ hi)))
          refine WL.assign .nil rfl rfl rfl rfl ?_
          with_reducible refine WL.nil ?_
          with_reducible refine Ex.thn_norm ?_
          with_reducible refine W.ret ?_
          with_reducible refine Ex.thn_ret ?_
          with_reducible refine Ex.blk_ret ?_
          with_reducible refine Ex.thn_ret ?_
          with_reducible refine Ex.blk_ret ?_
          obtain ⟨F506, hS507, hle508, h509, hf510⟩ := OW.freeze h505 hS501
          have fo511 := (hf510 _ ap488).trans fo475
          have fo512 := (hf510 _ ap489).trans fo487
          have hE513 : Ext n0 F0 n467 F506 := ⟨Nat.le_trans hE471.le (by omega), hE471.sub.trans hle508, fun i hi => (hf510 i (fun hj => by have := OW.id_lt h505 hj; omega)).trans (hE471.eq i hi)⟩
          obtain rfl := Option.some.inj hr
          exact ⟨.inr rfl, _, (.cons (.cellN (l := [.int .i64 x476, .int .i64 x477, .int .i64 x478, .int .i64 x479, .slice a480 xs482.length cap481, .int .i64 x485]) rfl Try.underlying40 rfl info40 ho502 rfl rfl) (.cons (.tmp rfl) .nil)), ⟨F506, a480, cap481, (hE513.up (by omega)), hS507, rfl, h509⟩⟩
        · replace hr := iteB_neg hr hc499
          with_reducible refine W.skip ?_
          with_reducible refine Ex.thn_norm ?_
          with_reducible refine W.region ?_
          refine WL.fieldAddr .nil rfl rfl rfl Try.underlying40 rfl info3 rfl rfl ?_
          refine WL.load1 .nil rfl rfl rfl Try.underlying3 rfl rfl ho486 rfl ?_
          refine WL.move .nil rfl rfl rfl rfl ?_
          obtain ⟨hc514, hr⟩ := chk_some hr
          refine WL.addI .nil rfl rfl rfl rfl rfl hc514.1 hc514.2 ?_
          refine WL.fieldAddr .nil rfl rfl rfl Try.underlying40 rfl info3 rfl rfl ?_
          refine GL.store hS470 .nil (vc := [.int .i64 (x485 + x406.2.1)]) (c' := [.int .i64 x476, .int .i64 x477, .int .i64 x478, .int .i64 x479, .slice a480 xs482.length cap481, .int .i64 (x485 + x406.2.1)]) rfl rfl rfl info3 rfl rfl rfl rfl ho486 fo487 (Nat.le_of_ble_eq_true rfl) (by omega) (by repeat' (first | exact List.forall_mem_nil _ | refine List.forall_mem_cons.2 ⟨?_, ?_⟩ | rfl)) rfl (fun H515 hS516 ho517 hk518 => ?_)
          have ho519 := (hk518 _ (by omega)).trans ho474
          have h520 := OW.keep h483 (Nat.le_refl _) (fun i hi => hk518 i (fun hj => ap489 (hj ▸ hi)))
          with_reducible refine WL.nil ?_
          with_reducible refine Ex.blk_norm ?_
          with_reducible refine Ex.thn_norm ?_
          exact ⟨[(0, .slice a2 xs1.length cap3), (2, .pointer (some ⟨n0, 0, none⟩)), (5, .pointer (some ⟨n12, 0, none⟩))], (Fr.le_cons rfl (Fr.le_cons rfl (Fr.le_cons rfl Fr.le_nil))), x476, x477, x478, x479, a480, cap481, xs482, (x485 + x406.2.1), F469, rfl, hS516, hE471, ho519, fo475, ho517, fo487, h472, h520, ap488, ap489, hr⟩
theorem f_spec_l01Get_k {Δ : Prims} (g : Env Try.prog Δ) {lo n0 : Nat} {H0 F0 : Heap} (hS : St lo n0 H0 F0) {a2 : Option Addr} {cap3 : Nat} {xs1 : (List UInt8)} {x5 : Int} (h4 : SR F0 (.slice a2 xs1.length cap3) xs1) {res : (Int × Int × Int)} (hr : f_spec_l01Get xs1 x5 = some res) :
    C Try.prog Δ n0 116 [.slice a2 xs1.length cap3, .int .i64 x5] n0 H0 (fun v n H => St n0 n H F0 ∧ v = .tuple #[.int .i64 res.1, .int .i64 res.2.1, .int .i64 res.2.2]) := by
  refine C.body Try.func116 rfl rfl ?_
  unfold f_spec_l01Get at hr
  have hS0 : St n0 n0 H0 F0 := hS.low (Nat.le_refl _)
  have hE0 := Ext.refl n0 F0
  have hlo0 := hS0.lo
  with_reducible refine W.seq ?_
  with_reducible refine W.region ?_
  refine WL.assign .nil rfl rfl rfl rfl ?_
  refine WL.assign .nil rfl rfl rfl rfl ?_
  refine WL.assign .nil rfl rfl rfl rfl ?_
  with_reducible refine WL.nil ?_
  with_reducible refine Ex.thn_norm ?_
  with_reducible refine W.seq ?_
  with_reducible refine W.region ?_
  refine WL.assign .nil rfl rfl rfl rfl ?_
  with_reducible refine WL.nil ?_
  with_reducible refine Ex.thn_norm ?_
  with_reducible refine W.seq ?_
  with_reducible refine W.region ?_
  refine WL.assign .nil rfl rfl rfl rfl ?_
  with_reducible refine WL.nil ?_
  with_reducible refine Ex.thn_norm ?_
  with_reducible refine W.seq ?_
  with_reducible refine W.seq ?_
  with_reducible refine W.region ?_
  refine WL.assign .nil rfl rfl rfl rfl ?_
  with_reducible refine WL.nil ?_
  with_reducible refine Ex.thn_norm ?_
  with_reducible refine W.block ?_
  refine W.loopF (fun k0 fr n H => ∃ (x221 : Int) (x222 : Int) (x223 : Int) (F : Heap), fr = [(0, .slice a2 xs1.length cap3), (1, .int .i64 x5), (7, .int .i64 x221), (8, .int .i64 x222), (9, .int .i64 x223)] ∧ St n0 n H F ∧ Ext n0 F0 n F ∧ SR F (.slice a2 xs1.length cap3) xs1 ∧ f_spec_l01Get_L0 x5 xs1 k0 x221 x222 x223 = some res) BIG (fr0 := [(0, .slice a2 xs1.length cap3), (1, .int .i64 x5), (7, .int .i64 0), (8, .int .i64 1), (9, .int .i64 0)]) (Fr.le_cons rfl (Fr.le_cons rfl (Fr.le_cons rfl (Fr.le_cons rfl (Fr.le_cons rfl Fr.le_nil))))) ?_ ?_ ?_
  · exact ⟨0, 1, 0, F0, rfl, hS0, hE0, h4, hr⟩
  · intro fr n H hI
    obtain ⟨x221, x222, x223, F217, hfr, hS218, hE219, h220, hr⟩ := hI
    rw [f_spec_l01Get_L0] at hr
    cases hr
  · intro k0 _ n215 H216 hI
    obtain ⟨x221, x222, x223, F217, rfl, hS218, hE219, h220, hr⟩ := hI
    have hlen215 := hE219.le
    have hlon215 := hS218.lo
    rw [f_spec_l01Get_L0] at hr
    with_reducible refine W.seq ?_
    with_reducible refine W.seq ?_
    with_reducible refine W.region ?_
    refine WL.move .nil rfl rfl rfl rfl ?_
    refine WL.bin .nil rfl rfl rfl rfl rfl rfl ?_
    with_reducible refine WL.nil ?_
    with_reducible refine Ex.thn_norm ?_
    refine W.condD rfl (fun hc225 => ?_) (fun hc225 => ?_)
    · replace hr := ite_pos hr hc225
      with_reducible refine W.skip ?_
      with_reducible refine Ex.thn_norm ?_
      with_reducible refine W.seq ?_
      refine W.cut (fun fr n H => ∃ (x275 : Int) (x276 : Int) (F : Heap), fr = [(0, .slice a2 xs1.length cap3), (1, .int .i64 x5), (7, .int .i64 x275), (8, .int .i64 x276), (9, .int .i64 x223)] ∧ St n0 n H F ∧ Ext n0 F0 n F ∧ SR F (.slice a2 xs1.length cap3) xs1 ∧ f_spec_l01Get_J1 x223 (f_spec_l01Get_L0 x5 xs1 k0) x275 x276 = some res) ?_ ?_
      · with_reducible refine W.block ?_
        with_reducible refine W.seq ?_
        with_reducible refine W.seq ?_
        with_reducible refine W.region ?_
        refine WL.move .nil rfl rfl rfl rfl ?_
        refine WL.move .nil rfl rfl rfl rfl ?_
        obtain ⟨hc278, hr⟩ := chk_some hr
        refine WL.addI .nil rfl rfl rfl rfl rfl hc278.1 hc278.2 ?_
        refine WL.move .nil rfl rfl rfl rfl ?_
        refine WL.len .nil rfl rfl rfl Try.underlying24 rfl ?_
        refine WL.bin .nil rfl rfl rfl rfl rfl rfl ?_
        with_reducible refine WL.nil ?_
        with_reducible refine Ex.thn_norm ?_
        refine W.condD rfl (fun hc280 => ?_) (fun hc280 => ?_)
        · replace hr := ite_pos hr hc280
          with_reducible refine W.seq ?_
          with_reducible refine W.region ?_
          refine WL.assign .nil rfl rfl rfl rfl ?_
          refine WL.assign .nil rfl rfl rfl rfl ?_
          refine WL.assign .nil rfl rfl rfl rfl ?_
          with_reducible refine WL.nil ?_
          with_reducible refine Ex.thn_norm ?_
          with_reducible refine W.ret ?_
          with_reducible refine Ex.thn_ret ?_
          with_reducible refine Ex.blk_ret ?_
          with_reducible refine Ex.thn_ret ?_
          with_reducible refine Ex.thn_ret ?_
          with_reducible refine Ex.blk_ret ?_
          with_reducible refine Ex.thn_ret ?_
          obtain rfl := Option.some.inj hr
          exact ⟨.inr rfl, _, (.cons (.tmp rfl) (.cons (.tmp rfl) (.cons (.tmp rfl) .nil))), ⟨(Ext.st hE219 hS218), rfl⟩⟩
        · replace hr := ite_neg hr hc280
          with_reducible refine W.skip ?_
          with_reducible refine Ex.thn_norm ?_
          with_reducible refine W.seq ?_
          with_reducible refine W.region ?_
          refine WL.move .nil rfl rfl rfl rfl ?_
          refine WL.move .nil rfl rfl rfl rfl ?_
          refine WL.move .nil rfl rfl rfl rfl ?_
          obtain ⟨hc281, hr⟩ := chk_some hr
          refine WL.addI .nil rfl rfl rfl rfl rfl hc281.1 hc281.2 ?_
          obtain ⟨x282, hx282, hr⟩ := bnd_some hr
          refine GL.index .nil rfl rfl rfl Try.underlying24 info5 rfl rfl h220 hS218.fh rfl hx282 (fun b283 kp284 c285 ecs286 hrow287 hwin288 hR289 => ?_)
          have hcs : _ = ([u8 x282] : List Value) := hR289
          subst hcs
          refine WL.load1 .nil rfl rfl rfl Try.underlying5 rfl rfl hrow287 ((win_get0 hwin288 (show (0 : Nat) < 1 by decide)).trans rfl) ?_
          refine WL.convN .nil rfl rfl rfl Try.underlying5 Try.underlying3 rfl topI64 (u8_bnd _).1 (u8_lt63 _) ?_
          refine WL.assign .nil rfl rfl rfl rfl ?_
          with_reducible refine WL.nil ?_
          with_reducible refine Ex.thn_norm ?_
          with_reducible refine W.seq ?_
          with_reducible refine W.region ?_
          refine WL.move .nil rfl rfl rfl rfl ?_
          refine WL.move .nil rfl rfl rfl rfl ?_
          obtain ⟨hc290, hr⟩ := chk_some hr
          refine WL.remI .nil rfl rfl rfl rfl rfl hc290.1 hc290.2 ?_
          refine WL.move .nil rfl rfl rfl rfl ?_
          obtain ⟨hc291, hr⟩ := chk_some hr
          refine WL.mulI .nil rfl rfl rfl rfl rfl hc291.1 hc291.2 ?_
          obtain ⟨hc292, hr⟩ := chk_some hr
          refine WL.addI .nil rfl rfl rfl rfl rfl hc292.1 hc292.2 ?_
          refine WL.assign .nil rfl rfl rfl rfl ?_
          with_reducible refine WL.nil ?_
          with_reducible refine Ex.thn_norm ?_
          with_reducible refine W.seq ?_
          with_reducible refine W.seq ?_
          with_reducible refine W.region ?_
          refine WL.move .nil rfl rfl rfl rfl ?_
          refine WL.bin .nil rfl rfl rfl rfl rfl rfl ?_
          with_reducible refine WL.nil ?_
          with_reducible refine Ex.thn_norm ?_
          refine W.condD rfl (fun hc306 => ?_) (fun hc306 => ?_)
          · replace hr := ite_pos hr hc306
            with_reducible refine W.seq ?_
            with_reducible refine W.seq ?_
            refine W.cut (fun fr n H => ∃ (x313 : Bool) (F : Heap), fr = [(1, .int .i64 x5), (7, .int .i64 (x221 + (((x282.toNat : Int) % 128) * x222))), (9, .int .i64 x223), (41, .bool x313)] ∧ St n0 n H F ∧ Ext n0 F0 n F ∧ f_spec_l01Get_J2 x5 x223 x221 x282 x222 x313 = some res) ?_ ?_
            · with_reducible refine W.region ?_
              refine WL.move .nil rfl rfl rfl rfl ?_
              refine WL.bin .nil rfl rfl rfl rfl rfl rfl ?_
              refine WL.move .nil rfl rfl rfl rfl ?_
              refine WL.guardD rfl rfl rfl (fun hg318 => ?_) (fun hg318 => ?_)
              · replace hr := ite_pos hr hg318
                refine WL.move .nil rfl rfl rfl rfl ?_
                refine WL.bin .nil rfl rfl rfl rfl rfl rfl ?_
                refine WL.pick .nil rfl rfl rfl rfl rfl ?_
                with_reducible refine WL.nil ?_
                with_reducible refine Ex.thn_norm ?_
                exact ⟨[(1, .int .i64 x5), (7, .int .i64 (x221 + (((x282.toNat : Int) % 128) * x222))), (9, .int .i64 x223), (41, .bool (decide ((x282.toNat : Int) = 0)))], (Fr.le_cons rfl (Fr.le_cons rfl (Fr.le_cons rfl (Fr.le_cons rfl Fr.le_nil)))), (decide ((x282.toNat : Int) = 0)), F217, rfl, hS218, hE219, hr⟩
              · replace hr := ite_neg hr hg318
                refine WL.skip .nil rfl rfl ?_
                refine WL.skip .nil rfl rfl ?_
                refine WL.pick .nil rfl rfl rfl rfl rfl ?_
                with_reducible refine WL.nil ?_
                with_reducible refine Ex.thn_norm ?_
                exact ⟨[(1, .int .i64 x5), (7, .int .i64 (x221 + (((x282.toNat : Int) % 128) * x222))), (9, .int .i64 x223), (41, .bool false)], (Fr.le_cons rfl (Fr.le_cons rfl (Fr.le_cons rfl (Fr.le_cons rfl Fr.le_nil)))), false, F217, rfl, hS218, hE219, hr⟩
            · intro _ n308 H309 hI
              obtain ⟨x313, F310, rfl, hS311, hE312, hr⟩ := hI
              have hlen308 := hE312.le
              have hlon308 := hS311.lo
              unfold f_spec_l01Get_J2 at hr
              refine W.cond rfl (fun hc315 => ?_) (fun hc315 => ?_)
              · replace hr := iteB_pos hr hc315
                with_reducible refine W.seq ?_
                with_reducible refine W.region ?_
                refine WL.assign .nil rfl rfl rfl rfl ?_
                refine WL.assign .nil rfl rfl rfl rfl ?_
                refine WL.assign .nil rfl rfl rfl rfl ?_
                with_reducible refine WL.nil ?_
                with_reducible refine Ex.thn_norm ?_
                with_reducible refine W.ret ?_
                with_reducible refine Ex.thn_ret ?_
                with_reducible refine Ex.thn_ret ?_
                with_reducible refine Ex.blk_ret ?_
                with_reducible refine Ex.thn_ret ?_
                with_reducible refine Ex.thn_ret ?_
                with_reducible refine Ex.blk_ret ?_
                with_reducible refine Ex.thn_ret ?_
                obtain rfl := Option.some.inj hr
                exact ⟨.inr rfl, _, (.cons (.tmp rfl) (.cons (.tmp rfl) (.cons (.tmp rfl) .nil))), ⟨(Ext.st hE312 hS311), rfl⟩⟩
              · replace hr := iteB_neg hr hc315
                with_reducible refine W.skip ?_
                with_reducible refine Ex.thn_norm ?_
                with_reducible refine W.seq ?_
                with_reducible refine W.region ?_
                refine WL.move .nil rfl rfl rfl rfl ?_
                refine WL.move .nil rfl rfl rfl rfl ?_
                refine WL.move .nil rfl rfl rfl rfl ?_
                obtain ⟨hc316, hr⟩ := chk_some hr
                refine WL.addI .nil rfl rfl rfl rfl rfl hc316.1 hc316.2 ?_
                obtain ⟨hc317, hr⟩ := chk_some hr
                refine WL.addI .nil rfl rfl rfl rfl rfl hc317.1 hc317.2 ?_
                refine WL.assign .nil rfl rfl rfl rfl ?_
                refine WL.assign .nil rfl rfl rfl rfl ?_
                refine WL.assign .nil rfl rfl rfl rfl ?_
                with_reducible refine WL.nil ?_
                with_reducible refine Ex.thn_norm ?_
                with_reducible refine W.ret ?_
                with_reducible refine Ex.thn_ret ?_
                with_reducible refine Ex.blk_ret ?_
                with_reducible refine Ex.thn_ret ?_
                with_reducible refine Ex.thn_ret ?_
                with_reducible refine Ex.blk_ret ?_
                with_reducible refine Ex.thn_ret ?_
                obtain rfl := Option.some.inj hr
                exact ⟨.inr rfl, _, (.cons (.tmp rfl) (.cons (.tmp rfl) (.cons (.tmp rfl) .nil))), ⟨(Ext.st hE312 hS311), rfl⟩⟩
          · replace hr := ite_neg hr hc306
            with_reducible refine W.skip ?_
            with_reducible refine Ex.thn_norm ?_
            with_reducible refine W.seq ?_
            with_reducible refine W.region ?_
            refine WL.move .nil rfl rfl rfl rfl ?_
            refine WL.bin .nil rfl rfl rfl rfl rfl rfl ?_
            with_reducible refine WL.nil ?_
            with_reducible refine Ex.thn_norm ?_
            refine W.condD rfl (fun hc319 => ?_) (fun hc319 => ?_)
            · replace hr := ite_pos hr hc319
              with_reducible refine W.region ?_
              refine WL.move .nil rfl rfl rfl rfl ?_
              obtain ⟨hc320, hr⟩ := chk_some hr
              refine WL.mulI .nil rfl rfl rfl rfl rfl hc320.1 hc320.2 ?_
              refine WL.assign .nil rfl rfl rfl rfl ?_
              with_reducible refine WL.nil ?_
              with_reducible refine Ex.blk_norm ?_
              with_reducible refine Ex.thn_norm ?_
              exact ⟨[(0, .slice a2 xs1.length cap3), (1, .int .i64 x5), (7, .int .i64 (x221 + (((x282.toNat : Int) % 128) * x222))), (8, .int .i64 (x222 * 128)), (9, .int .i64 x223)], (Fr.le_cons rfl (Fr.le_cons rfl (Fr.le_cons rfl (Fr.le_cons rfl (Fr.le_cons rfl Fr.le_nil))))), (x221 + (((x282.toNat : Int) % 128) * x222)), (x222 * 128), F217, rfl, hS218, hE219, h220, hr⟩
            · replace hr := ite_neg hr hc319
              with_reducible refine W.skip ?_
              with_reducible refine Ex.blk_norm ?_
              with_reducible refine Ex.thn_norm ?_
              exact ⟨[(0, .slice a2 xs1.length cap3), (1, .int .i64 x5), (7, .int .i64 (x221 + (((x282.toNat : Int) % 128) * x222))), (8, .int .i64 x222), (9, .int .i64 x223)], (Fr.le_cons rfl (Fr.le_cons rfl (Fr.le_cons rfl (Fr.le_cons rfl (Fr.le_cons rfl Fr.le_nil))))), (x221 + (((x282.toNat : Int) % 128) * x222)), x222, F217, rfl, hS218, hE219, h220, hr⟩
      · intro _ n269 H270 hI
        obtain ⟨x275, x276, F271, rfl, hS272, hE273, h274, hr⟩ := hI
        have hlen269 := hE273.le
        have hlon269 := hS272.lo
        unfold f_spec_l01Get_J1 at hr
        with_reducible refine W.region ?_
        refine WL.move .nil rfl rfl rfl rfl ?_
        obtain ⟨hc277, hr⟩ := chk_some hr
        refine WL.addI .nil rfl rfl rfl rfl rfl hc277.1 hc277.2 ?_
        refine WL.assign .nil rfl rfl rfl rfl ?_
        with_reducible refine WL.nil ?_
        with_reducible refine Ex.thn_norm ?_
        exact ⟨[(0, .slice a2 xs1.length cap3), (1, .int .i64 x5), (7, .int .i64 x275), (8, .int .i64 x276), (9, .int .i64 (x223 + 1))], (Fr.le_cons rfl (Fr.le_cons rfl (Fr.le_cons rfl (Fr.le_cons rfl (Fr.le_cons rfl Fr.le_nil))))), x275, x276, (x223 + 1), F271, rfl, hS272, hE273, h274, hr⟩
    · replace hr := ite_neg hr hc225
      with_reducible refine W.exit ?_
      with_reducible refine Ex.thn_ex ?_
      with_reducible refine Ex.thn_ex ?_
      with_reducible refine Ex.blk_here ?_
      with_reducible refine Ex.thn_norm ?_
      with_reducible refine W.seq ?_
      with_reducible refine W.region ?_
      refine WL.assign .nil rfl rfl rfl rfl ?_
      refine WL.assign .nil rfl rfl rfl rfl ?_
      refine WL.assign .nil rfl rfl rfl rfl ?_
      with_reducible refine WL.nil ?_
      with_reducible refine Ex.thn_norm ?_
      with_reducible refine W.ret ?_
      obtain rfl := Option.some.inj hr
      exact ⟨.inr rfl, _, (.cons (.tmp rfl) (.cons (.tmp rfl) (.cons (.tmp rfl) .nil))), ⟨(Ext.st hE219 hS218), rfl⟩⟩
theorem f_spec_l01Crc_k {Δ : Prims} (g : Env Try.prog Δ) {lo n0 : Nat} {H0 F0 : Heap} (hS : St lo n0 H0 F0) {a2 : Option Addr} {cap3 : Nat} {xs1 : (List UInt8)} (h4 : SR F0 (.slice a2 xs1.length cap3) xs1) {res : (Int)} (hr : f_spec_l01Crc xs1 = some res) :
    C Try.prog Δ n0 118 [.slice a2 xs1.length cap3] n0 H0 (fun v n H => St n0 n H F0 ∧ v = .int .i64 res) := by
  refine C.body Try.func118 rfl rfl ?_
  unfold f_spec_l01Crc at hr
  have hS0 : St n0 n0 H0 F0 := hS.low (Nat.le_refl _)
  have hE0 := Ext.refl n0 F0
  have hlo0 := hS0.lo
  with_reducible refine W.seq ?_
  with_reducible refine W.region ?_
  refine WL.assign .nil rfl rfl rfl rfl ?_
  with_reducible refine WL.nil ?_
  with_reducible refine Ex.thn_norm ?_
  with_reducible refine W.seq ?_
  with_reducible refine W.region ?_
  refine WL.assign .nil rfl rfl rfl rfl ?_
  with_reducible refine WL.nil ?_
  with_reducible refine Ex.thn_norm ?_
  with_reducible refine W.seq ?_
  with_reducible refine W.seq ?_
  with_reducible refine W.region ?_
  refine WL.assign .nil rfl rfl rfl rfl ?_
  with_reducible refine WL.nil ?_
  with_reducible refine Ex.thn_norm ?_
  with_reducible refine W.block ?_
  refine W.loopF (fun k0 fr n H => ∃ (x972 : Int) (x973 : Int) (F : Heap), fr = [(0, .slice a2 xs1.length cap3), (3, .int .i64 x972), (4, .int .i64 x973)] ∧ St n0 n H F ∧ Ext n0 F0 n F ∧ SR F (.slice a2 xs1.length cap3) xs1 ∧ f_spec_l01Crc_L0 xs1 k0 x972 x973 = some res) BIG (fr0 := [(0, .slice a2 xs1.length cap3), (3, .int .i64 4294967295), (4, .int .i64 0)]) (Fr.le_cons rfl (Fr.le_cons rfl (Fr.le_cons rfl Fr.le_nil))) ?_ ?_ ?_
  · exact ⟨4294967295, 0, F0, rfl, hS0, hE0, h4, hr⟩
  · intro fr n H hI
    obtain ⟨x972, x973, F968, hfr, hS969, hE970, h971, hr⟩ := hI
    rw [f_spec_l01Crc_L0] at hr
    cases hr
  · intro k0 _ n966 H967 hI
    obtain ⟨x972, x973, F968, rfl, hS969, hE970, h971, hr⟩ := hI
    have hlen966 := hE970.le
    have hlon966 := hS969.lo
    rw [f_spec_l01Crc_L0] at hr
    with_reducible refine W.seq ?_
    with_reducible refine W.seq ?_
    with_reducible refine W.region ?_
    refine WL.move .nil rfl rfl rfl rfl ?_
    refine WL.move .nil rfl rfl rfl rfl ?_
    refine WL.len .nil rfl rfl rfl Try.underlying24 rfl ?_
    refine WL.bin .nil rfl rfl rfl rfl rfl rfl ?_
    with_reducible refine WL.nil ?_
    with_reducible refine Ex.thn_norm ?_
    refine W.condD rfl (fun hc975 => ?_) (fun hc975 => ?_)
    · replace hr := ite_pos hr hc975
      with_reducible refine W.skip ?_
      with_reducible refine Ex.thn_norm ?_
      with_reducible refine W.seq ?_
      with_reducible refine W.block ?_
      with_reducible refine W.seq ?_
      with_reducible refine W.region ?_
      refine WL.move .nil rfl rfl rfl rfl ?_
      refine WL.move .nil rfl rfl rfl rfl ?_
      refine WL.move .nil rfl rfl rfl rfl ?_
      obtain ⟨x1067, hx1067, hr⟩ := bnd_some hr
      refine GL.index .nil rfl rfl rfl Try.underlying24 info5 rfl rfl h971 hS969.fh rfl hx1067 (fun b1068 kp1069 c1070 ecs1071 hrow1072 hwin1073 hR1074 => ?_)
      have hcs : _ = ([u8 x1067] : List Value) := hR1074
      subst hcs
      refine WL.load1 .nil rfl rfl rfl Try.underlying5 rfl rfl hrow1072 ((win_get0 hwin1073 (show (0 : Nat) < 1 by decide)).trans rfl) ?_
      refine WL.convN .nil rfl rfl rfl Try.underlying5 Try.underlying3 rfl topI64 (u8_bnd _).1 (u8_lt63 _) ?_
      obtain ⟨hc1075, hr⟩ := chk_some hr
      refine WL.xorN .nil rfl rfl rfl rfl rfl topI64 rfl rfl hc1075.1 hc1075.2.1 hc1075.2.2.1 hc1075.2.2.2 (fun _ => ?_)
      refine WL.assign .nil rfl rfl rfl rfl ?_
      with_reducible refine WL.nil ?_
      with_reducible refine Ex.thn_norm ?_
      with_reducible refine W.seq ?_
      with_reducible refine W.region ?_
      refine WL.assign .nil rfl rfl rfl rfl ?_
      with_reducible refine WL.nil ?_
      with_reducible refine Ex.thn_norm ?_
      with_reducible refine W.block ?_
      refine W.loopF (fun k1 fr n H => ∃ (x1136 : Int) (x1137 : Int) (F : Heap), fr = [(0, .slice a2 xs1.length cap3), (3, .int .i64 x1136), (4, .int .i64 x973), (5, .int .i64 x1137)] ∧ St n0 n H F ∧ Ext n0 F0 n F ∧ SR F (.slice a2 xs1.length cap3) xs1 ∧ f_spec_l01Crc_L1 x973 (f_spec_l01Crc_L0 xs1 k0) k1 x1136 x1137 = some res) BIG (fr0 := [(0, .slice a2 xs1.length cap3), (3, .int .i64 ((x972.toNat ^^^ (x1067.toNat : Int).toNat : Nat) : Int)), (4, .int .i64 x973), (5, .int .i64 0)]) (Fr.le_cons rfl (Fr.le_cons rfl (Fr.le_cons rfl (Fr.le_cons rfl Fr.le_nil)))) ?_ ?_ ?_
      · exact ⟨((x972.toNat ^^^ (x1067.toNat : Int).toNat : Nat) : Int), 0, F968, rfl, hS969, hE970, h971, hr⟩
      · intro fr n H hI
        obtain ⟨x1136, x1137, F1132, hfr, hS1133, hE1134, h1135, hr⟩ := hI
        rw [f_spec_l01Crc_L1] at hr
        cases hr
      · intro k1 _ n1130 H1131 hI
        obtain ⟨x1136, x1137, F1132, rfl, hS1133, hE1134, h1135, hr⟩ := hI
        have hlen1130 := hE1134.le
        have hlon1130 := hS1133.lo
        rw [f_spec_l01Crc_L1] at hr
        with_reducible refine W.seq ?_
        with_reducible refine W.seq ?_
        with_reducible refine W.region ?_
        refine WL.move .nil rfl rfl rfl rfl ?_
        refine WL.bin .nil rfl rfl rfl rfl rfl rfl ?_
        with_reducible refine WL.nil ?_
        with_reducible refine Ex.thn_norm ?_
        refine W.condD rfl (fun hc1139 => ?_) (fun hc1139 => ?_)
        · replace hr := ite_pos hr hc1139
          with_reducible refine W.skip ?_
          with_reducible refine Ex.thn_norm ?_
          with_reducible refine W.seq ?_
          refine W.cut (fun fr n H => ∃ (x1151 : Int) (F : Heap), fr = [(0, .slice a2 xs1.length cap3), (3, .int .i64 x1151), (4, .int .i64 x973), (5, .int .i64 x1137)] ∧ St n0 n H F ∧ Ext n0 F0 n F ∧ SR F (.slice a2 xs1.length cap3) xs1 ∧ f_spec_l01Crc_J2 x1137 (f_spec_l01Crc_L1 x973 (f_spec_l01Crc_L0 xs1 k0) k1) x1151 = some res) ?_ ?_
          · with_reducible refine W.block ?_
            with_reducible refine W.seq ?_
            with_reducible refine W.region ?_
            refine WL.move .nil rfl rfl rfl rfl ?_
            obtain ⟨hc1153, hr⟩ := chk_some hr
            refine WL.remI .nil rfl rfl rfl rfl rfl hc1153.1 hc1153.2 ?_
            refine WL.bin .nil rfl rfl rfl rfl rfl rfl ?_
            with_reducible refine WL.nil ?_
            with_reducible refine Ex.thn_norm ?_
            refine W.condD rfl (fun hc1154 => ?_) (fun hc1154 => ?_)
            · replace hr := ite_pos hr hc1154
              with_reducible refine W.region ?_
              refine WL.move .nil rfl rfl rfl rfl ?_
              obtain ⟨hc1155, hr⟩ := chk_some hr
              refine WL.quoI .nil rfl rfl rfl rfl rfl hc1155.1 hc1155.2.1 hc1155.2.2 ?_
              obtain ⟨hc1156, hr⟩ := chk_some hr
              refine WL.xorN .nil rfl rfl rfl rfl rfl topI64 rfl rfl hc1156.1 hc1156.2.1 hc1156.2.2.1 hc1156.2.2.2 (fun _ => ?_)
              refine WL.assign .nil rfl rfl rfl rfl ?_
              with_reducible refine WL.nil ?_
              with_reducible refine Ex.blk_norm ?_
              with_reducible refine Ex.thn_norm ?_
              exact ⟨[(0, .slice a2 xs1.length cap3), (3, .int .i64 (((x1136 / 2).toNat ^^^ (3988292384 : Int).toNat : Nat) : Int)), (4, .int .i64 x973), (5, .int .i64 x1137)], (Fr.le_cons rfl (Fr.le_cons rfl (Fr.le_cons rfl (Fr.le_cons rfl Fr.le_nil)))), (((x1136 / 2).toNat ^^^ (3988292384 : Int).toNat : Nat) : Int), F1132, rfl, hS1133, hE1134, h1135, hr⟩
            · replace hr := ite_neg hr hc1154
              with_reducible refine W.region ?_
              refine WL.move .nil rfl rfl rfl rfl ?_
              obtain ⟨hc1157, hr⟩ := chk_some hr
              refine WL.quoI .nil rfl rfl rfl rfl rfl hc1157.1 hc1157.2.1 hc1157.2.2 ?_
              refine WL.assign .nil rfl rfl rfl rfl ?_
              with_reducible refine WL.nil ?_
              with_reducible refine Ex.blk_norm ?_
              with_reducible refine Ex.thn_norm ?_
              exact ⟨[(0, .slice a2 xs1.length cap3), (3, .int .i64 (x1136 / 2)), (4, .int .i64 x973), (5, .int .i64 x1137)], (Fr.le_cons rfl (Fr.le_cons rfl (Fr.le_cons rfl (Fr.le_cons rfl Fr.le_nil)))), (x1136 / 2), F1132, rfl, hS1133, hE1134, h1135, hr⟩
          · intro _ n1145 H1146 hI
            obtain ⟨x1151, F1147, rfl, hS1148, hE1149, h1150, hr⟩ := hI
            have hlen1145 := hE1149.le
            have hlon1145 := hS1148.lo
            unfold f_spec_l01Crc_J2 at hr
            with_reducible refine W.region ?_
            refine WL.move .nil rfl rfl rfl rfl ?_
            obtain ⟨hc1152, hr⟩ := chk_some hr
            refine WL.addI .nil rfl rfl rfl rfl rfl hc1152.1 hc1152.2 ?_
            refine WL.assign .nil rfl rfl rfl rfl ?_
            with_reducible refine WL.nil ?_
            with_reducible refine Ex.thn_norm ?_
            exact ⟨[(0, .slice a2 xs1.length cap3), (3, .int .i64 x1151), (4, .int .i64 x973), (5, .int .i64 (x1137 + 1))], (Fr.le_cons rfl (Fr.le_cons rfl (Fr.le_cons rfl (Fr.le_cons rfl Fr.le_nil)))), x1151, (x1137 + 1), F1147, rfl, hS1148, hE1149, h1150, hr⟩
        · replace hr := ite_neg hr hc1139
          with_reducible refine W.exit ?_
          with_reducible refine Ex.thn_ex ?_
          with_reducible refine Ex.thn_ex ?_
          with_reducible refine Ex.blk_here ?_
          with_reducible refine Ex.blk_norm ?_
          with_reducible refine Ex.thn_norm ?_
          with_reducible refine W.region ?_
          refine WL.move .nil rfl rfl rfl rfl ?_
          obtain ⟨hc1158, hr⟩ := chk_some hr
          refine WL.addI .nil rfl rfl rfl rfl rfl hc1158.1 hc1158.2 ?_
          refine WL.assign .nil rfl rfl rfl rfl ?_
          with_reducible refine WL.nil ?_
          with_reducible refine Ex.thn_norm ?_
          exact ⟨[(0, .slice a2 xs1.length cap3), (3, .int .i64 x1136), (4, .int .i64 (x973 + 1))], (Fr.le_cons rfl (Fr.le_cons rfl (Fr.le_cons rfl Fr.le_nil))), x1136, (x973 + 1), F1132, rfl, hS1133, hE1134, h1135, hr⟩
    · replace hr := ite_neg hr hc975
      with_reducible refine W.exit ?_
      with_reducible refine Ex.thn_ex ?_
      with_reducible refine Ex.thn_ex ?_
      with_reducible refine Ex.blk_here ?_
      with_reducible refine Ex.thn_norm ?_
      with_reducible refine W.seq ?_
      with_reducible refine W.region ?_
      refine WL.move .nil rfl rfl rfl rfl ?_
      obtain ⟨hc1159, hr⟩ := chk_some hr
      refine WL.xorN .nil rfl rfl rfl rfl rfl topI64 rfl rfl hc1159.1 hc1159.2.1 hc1159.2.2.1 hc1159.2.2.2 (fun _ => ?_)
      refine WL.assign .nil rfl rfl rfl rfl ?_
      with_reducible refine WL.nil ?_
      with_reducible refine Ex.thn_norm ?_
      with_reducible refine W.ret ?_
      obtain rfl := Option.some.inj hr
      exact ⟨.inr rfl, _, (.cons (.tmp rfl) .nil), ⟨(Ext.st hE970 hS969), rfl⟩⟩
theorem f_spec_l01Four_k {Δ : Prims} (g : Env Try.prog Δ) {lo n0 : Nat} {H0 F0 : Heap} (hS : St lo n0 H0 F0) {x1 : Int} {res : ((List UInt8))} (hr : f_spec_l01Four x1 = some res) :
    C Try.prog Δ n0 117 [.int .i64 x1] n0 H0 (fun v n H => ∃ (ra1 : Option Addr) (rcap2 : Nat), St n0 n H F0 ∧ v = .slice ra1 res.length rcap2 ∧ OW n0 n H F0 (.slice ra1 res.length rcap2) res) := by
  refine C.body Try.func117 rfl rfl ?_
  unfold f_spec_l01Four at hr
  have hS0 : St n0 n0 H0 F0 := hS.low (Nat.le_refl _)
  have hE0 := Ext.refl n0 F0
  have hlo0 := hS0.lo
  with_reducible refine W.seq ?_
  with_reducible refine W.region ?_
  refine WL.assign .nil rfl rfl rfl rfl ?_
  with_reducible refine WL.nil ?_
  with_reducible refine Ex.thn_norm ?_
  with_reducible refine W.seq ?_
  with_reducible refine W.region ?_
  refine WL.move .nil rfl rfl rfl rfl ?_
  obtain ⟨hc2, hr⟩ := chk_some hr
  refine WL.remI .nil rfl rfl rfl rfl rfl hc2.1 hc2.2 ?_
  refine WL.convB .nil rfl rfl rfl Try.underlying3 Try.underlying5 rfl ?_
  refine WL.move .nil rfl rfl rfl rfl ?_
  obtain ⟨hc3, hr⟩ := chk_some hr
  refine WL.quoI .nil rfl rfl rfl rfl rfl hc3.1 hc3.2.1 hc3.2.2 ?_
  obtain ⟨hc4, hr⟩ := chk_some hr
  refine WL.remI .nil rfl rfl rfl rfl rfl hc4.1 hc4.2 ?_
  refine WL.convB .nil rfl rfl rfl Try.underlying3 Try.underlying5 rfl ?_
  refine WL.move .nil rfl rfl rfl rfl ?_
  obtain ⟨hc5, hr⟩ := chk_some hr
  refine WL.quoI .nil rfl rfl rfl rfl rfl hc5.1 hc5.2.1 hc5.2.2 ?_
  obtain ⟨hc6, hr⟩ := chk_some hr
  refine WL.remI .nil rfl rfl rfl rfl rfl hc6.1 hc6.2 ?_
  refine WL.convB .nil rfl rfl rfl Try.underlying3 Try.underlying5 rfl ?_
  refine WL.move .nil rfl rfl rfl rfl ?_
  obtain ⟨hc7, hr⟩ := chk_some hr
  refine WL.quoI .nil rfl rfl rfl rfl rfl hc7.1 hc7.2.1 hc7.2.2 ?_
  obtain ⟨hc8, hr⟩ := chk_some hr
  refine WL.remI .nil rfl rfl rfl rfl rfl hc8.1 hc8.2 ?_
  refine WL.convB .nil rfl rfl rfl Try.underlying3 Try.underlying5 rfl ?_
  refine GL.lit (cs := [u8 (byteOf (x1 % 256)), u8 (byteOf ((x1 / 256) % 256)), u8 (byteOf ((x1 / 65536) % 256)), u8 (byteOf ((x1 / 16777216) % 256))]) (xs := ([(byteOf (x1 % 256)), (byteOf ((x1 / 256) % 256)), (byteOf ((x1 / 65536) % 256)), (byteOf ((x1 / 16777216) % 256))] : List UInt8)) hS0 .nil rfl rfl rfl Try.underlying24 info5 rfl rfl rfl (by decide) (by decide) rfl rfl rfl rfl rfl (RA.cons (cs := [u8 (byteOf (x1 % 256))]) (a := ((byteOf (x1 % 256)) : UInt8)) rfl (RA.cons (cs := [u8 (byteOf ((x1 / 256) % 256))]) (a := ((byteOf ((x1 / 256) % 256)) : UInt8)) rfl (RA.cons (cs := [u8 (byteOf ((x1 / 65536) % 256))]) (a := ((byteOf ((x1 / 65536) % 256)) : UInt8)) rfl (RA.cons (cs := [u8 (byteOf ((x1 / 16777216) % 256))]) (a := ((byteOf ((x1 / 16777216) % 256)) : UInt8)) rfl RA.nil)))) rfl (fun H9 hS10 hO11 hk12 => ?_)
  have h13 := OW.lower (lo' := n0) hO11 (by omega)
  have hlon01 := hS10.lo
  refine WL.assign .nil rfl rfl rfl rfl ?_
  with_reducible refine WL.nil ?_
  with_reducible refine Ex.thn_norm ?_
  with_reducible refine W.ret ?_
  obtain rfl := Option.some.inj hr
  exact ⟨.inr rfl, _, (.cons (.tmp rfl) .nil), ⟨(some ⟨n0, 0, none⟩), 4, (Ext.st hE0 hS10), rfl, (OW.downSc hE0.sub h13)⟩⟩
theorem f_spec_l01Next_k {Δ : Prims} (g : Env Try.prog Δ) {lo n0 : Nat} {H0 F0 : Heap} (hS : St lo n0 H0 F0) {a2 : Option Addr} {cap3 : Nat} {xs1 : (List UInt8)} {x5 : Int} (h4 : SR F0 (.slice a2 xs1.length cap3) xs1) {res : ((List UInt8) × Int × Int)} (hr : f_spec_l01Next xs1 x5 = some res) :
    C Try.prog Δ n0 84 [.slice a2 xs1.length cap3, .int .i64 x5] n0 H0 (fun v n H => ∃ (ra1 : Option Addr) (rcap2 : Nat), St n0 n H F0 ∧ v = .tuple #[.slice ra1 res.1.length rcap2, .int .i64 res.2.1, .int .i64 res.2.2] ∧ OW n0 n H F0 (.slice ra1 res.1.length rcap2) res.1) := by
  refine C.body Try.func84 rfl rfl ?_
  unfold f_spec_l01Next at hr
  have hS0 : St n0 n0 H0 F0 := hS.low (Nat.le_refl _)
  have hE0 := Ext.refl n0 F0
  have hlo0 := hS0.lo
  with_reducible refine W.seq ?_
  with_reducible refine W.region ?_
  refine WL.assign .nil rfl rfl rfl rfl ?_
  refine WL.assign .nil rfl rfl rfl rfl ?_
  refine WL.assign .nil rfl rfl rfl rfl ?_
  with_reducible refine WL.nil ?_
  with_reducible refine Ex.thn_norm ?_
  with_reducible refine W.seq ?_
  with_reducible refine W.region ?_
  refine WL.move .nil rfl rfl rfl rfl ?_
  refine WL.move .nil rfl rfl rfl rfl ?_
  obtain ⟨x6, hx6, hr⟩ := bnd_some hr
  refine GL.callP g.good .nil rfl rfl rfl rfl rfl rfl Try.func116 rfl rfl hS0.lo (f_spec_l01Get_k  g hS0 h4 hx6) (fun v n7 H8 hn9 hk10 hp11 => ?_)
  obtain ⟨hS12, rfl⟩ := hp11
  have hS13 : St n0 n7 H8 F0 := ⟨by have := hS0.lo; omega, hS12.hb, hS12.fh⟩
  have hlon7 := hS13.lo
  refine WL.move .nil rfl rfl rfl rfl ?_
  refine WL.extract .nil rfl rfl rfl rfl rfl ?_
  refine WL.extract .nil rfl rfl rfl rfl rfl ?_
  refine WL.extract .nil rfl rfl rfl rfl rfl ?_
  refine WL.assign .nil rfl rfl rfl rfl ?_
  refine WL.assign .nil rfl rfl rfl rfl ?_
  refine WL.assign .nil rfl rfl rfl rfl ?_
  with_reducible refine WL.nil ?_
  with_reducible refine Ex.thn_norm ?_
  with_reducible refine W.seq ?_
  with_reducible refine W.seq ?_
  with_reducible refine W.region ?_
  refine WL.move .nil rfl rfl rfl rfl ?_
  refine WL.bin .nil rfl rfl rfl rfl rfl rfl ?_
  with_reducible refine WL.nil ?_
  with_reducible refine Ex.thn_norm ?_
  refine W.condD rfl (fun hc21 => ?_) (fun hc21 => ?_)
  · replace hr := ite_pos hr hc21
    with_reducible refine W.seq ?_
    with_reducible refine W.region ?_
    refine GL.lit (cs := []) (xs := ([] : List UInt8)) hS13 .nil rfl rfl rfl Try.underlying24 info5 rfl rfl rfl (by decide) (by decide) rfl rfl rfl rfl rfl RA.nil rfl (fun H22 hS23 hO24 hk25 => ?_)
    have h26 := OW.lower (lo' := n0) hO24 (by omega)
    have hlon71 := hS23.lo
    refine WL.assign .nil rfl rfl rfl rfl ?_
    refine WL.assign .nil rfl rfl rfl rfl ?_
    refine WL.assign .nil rfl rfl rfl rfl ?_
    with_reducible refine WL.nil ?_
    with_reducible refine Ex.thn_norm ?_
    with_reducible refine W.ret ?_
    with_reducible refine Ex.thn_ret ?_
    obtain rfl := Option.some.inj hr
    exact ⟨.inr rfl, _, (.cons (.tmp rfl) (.cons (.tmp rfl) (.cons (.tmp rfl) .nil))), ⟨(some ⟨n7, 0, none⟩), 0, (Ext.st hE0 hS23), rfl, (OW.downSc hE0.sub h26)⟩⟩
  · replace hr := ite_neg hr hc21
    with_reducible refine W.skip ?_
    with_reducible refine Ex.thn_norm ?_
    with_reducible refine W.seq ?_
    with_reducible refine W.seq ?_
    with_reducible refine W.region ?_
    refine WL.move .nil rfl rfl rfl rfl ?_
    refine WL.bin .nil rfl rfl rfl rfl rfl rfl ?_
    with_reducible refine WL.nil ?_
    with_reducible refine Ex.thn_norm ?_
    refine W.condD rfl (fun hc35 => ?_) (fun hc35 => ?_)
    · replace hr := ite_pos hr hc35
      with_reducible refine W.seq ?_
      with_reducible refine W.region ?_
      refine GL.lit (cs := []) (xs := ([] : List UInt8)) hS13 .nil rfl rfl rfl Try.underlying24 info5 rfl rfl rfl (by decide) (by decide) rfl rfl rfl rfl rfl RA.nil rfl (fun H36 hS37 hO38 hk39 => ?_)
      have h40 := OW.lower (lo' := n0) hO38 (by omega)
      have hlon71 := hS37.lo
      refine WL.assign .nil rfl rfl rfl rfl ?_
      refine WL.assign .nil rfl rfl rfl rfl ?_
      refine WL.assign .nil rfl rfl rfl rfl ?_
      with_reducible refine WL.nil ?_
      with_reducible refine Ex.thn_norm ?_
      with_reducible refine W.ret ?_
      with_reducible refine Ex.thn_ret ?_
      obtain rfl := Option.some.inj hr
      exact ⟨.inr rfl, _, (.cons (.tmp rfl) (.cons (.tmp rfl) (.cons (.tmp rfl) .nil))), ⟨(some ⟨n7, 0, none⟩), 0, (Ext.st hE0 hS37), rfl, (OW.downSc hE0.sub h40)⟩⟩
    · replace hr := ite_neg hr hc35
      with_reducible refine W.skip ?_
      with_reducible refine Ex.thn_norm ?_
      with_reducible refine W.seq ?_
      with_reducible refine W.seq ?_
      with_reducible refine W.region ?_
      refine WL.move .nil rfl rfl rfl rfl ?_
      refine WL.bin .nil rfl rfl rfl rfl rfl rfl ?_
      with_reducible refine WL.nil ?_
      with_reducible refine Ex.thn_norm ?_
      refine W.condD rfl (fun hc49 => ?_) (fun hc49 => ?_)
      · replace hr := ite_pos hr hc49
        with_reducible refine W.seq ?_
        with_reducible refine W.region ?_
        refine GL.lit (cs := []) (xs := ([] : List UInt8)) hS13 .nil rfl rfl rfl Try.underlying24 info5 rfl rfl rfl (by decide) (by decide) rfl rfl rfl rfl rfl RA.nil rfl (fun H50 hS51 hO52 hk53 => ?_)
        have h54 := OW.lower (lo' := n0) hO52 (by omega)
        have hlon71 := hS51.lo
        refine WL.assign .nil rfl rfl rfl rfl ?_
        refine WL.assign .nil rfl rfl rfl rfl ?_
        refine WL.assign .nil rfl rfl rfl rfl ?_
        with_reducible refine WL.nil ?_
        with_reducible refine Ex.thn_norm ?_
        with_reducible refine W.ret ?_
        with_reducible refine Ex.thn_ret ?_
        obtain rfl := Option.some.inj hr
        exact ⟨.inr rfl, _, (.cons (.tmp rfl) (.cons (.tmp rfl) (.cons (.tmp rfl) .nil))), ⟨(some ⟨n7, 0, none⟩), 0, (Ext.st hE0 hS51), rfl, (OW.downSc hE0.sub h54)⟩⟩
      · replace hr := ite_neg hr hc49
        with_reducible refine W.skip ?_
        with_reducible refine Ex.thn_norm ?_
        with_reducible refine W.seq ?_
        with_reducible refine W.seq ?_
        with_reducible refine W.region ?_
        refine WL.move .nil rfl rfl rfl rfl ?_
        refine WL.move .nil rfl rfl rfl rfl ?_
        obtain ⟨hc56, hr⟩ := chk_some hr
        refine WL.addI .nil rfl rfl rfl rfl rfl hc56.1 hc56.2 ?_
        obtain ⟨hc57, hr⟩ := chk_some hr
        refine WL.addI .nil rfl rfl rfl rfl rfl hc57.1 hc57.2 ?_
        refine WL.move .nil rfl rfl rfl rfl ?_
        refine WL.len .nil rfl rfl rfl Try.underlying24 rfl ?_
        refine WL.bin .nil rfl rfl rfl rfl rfl rfl ?_
        with_reducible refine WL.nil ?_
        with_reducible refine Ex.thn_norm ?_
        refine W.condD rfl (fun hc65 => ?_) (fun hc65 => ?_)
        · replace hr := ite_pos hr hc65
          with_reducible refine W.seq ?_
          with_reducible refine W.region ?_
          refine GL.lit (cs := []) (xs := ([] : List UInt8)) hS13 .nil rfl rfl rfl Try.underlying24 info5 rfl rfl rfl (by decide) (by decide) rfl rfl rfl rfl rfl RA.nil rfl (fun H66 hS67 hO68 hk69 => ?_)
          have h70 := OW.lower (lo' := n0) hO68 (by omega)
          have hlon71 := hS67.lo
          refine WL.assign .nil rfl rfl rfl rfl ?_
          refine WL.assign .nil rfl rfl rfl rfl ?_
          refine WL.assign .nil rfl rfl rfl rfl ?_
          with_reducible refine WL.nil ?_
          with_reducible refine Ex.thn_norm ?_
          with_reducible refine W.ret ?_
          with_reducible refine Ex.thn_ret ?_
          obtain rfl := Option.some.inj hr
          exact ⟨.inr rfl, _, (.cons (.tmp rfl) (.cons (.tmp rfl) (.cons (.tmp rfl) .nil))), ⟨(some ⟨n7, 0, none⟩), 0, (Ext.st hE0 hS67), rfl, (OW.downSc hE0.sub h70)⟩⟩
        · replace hr := ite_neg hr hc65
          with_reducible refine W.skip ?_
          with_reducible refine Ex.thn_norm ?_
          with_reducible refine W.seq ?_
          with_reducible refine W.region ?_
          refine GL.lit (cs := []) (xs := ([] : List UInt8)) hS13 .nil rfl rfl rfl Try.underlying24 info5 rfl rfl rfl (by decide) (by decide) rfl rfl rfl rfl rfl RA.nil rfl (fun H72 hS73 hO74 hk75 => ?_)
          have h76 := OW.lower (lo' := n0) hO74 (by omega)
          have hlon71 := hS73.lo
          refine WL.move .nil rfl rfl rfl rfl ?_
          refine WL.move .nil rfl rfl rfl rfl ?_
          refine WL.move .nil rfl rfl rfl rfl ?_
          refine WL.move .nil rfl rfl rfl rfl ?_
          obtain ⟨hc78, hr⟩ := chk_some hr
          refine WL.addI .nil rfl rfl rfl rfl rfl hc78.1 hc78.2 ?_
          obtain ⟨xs79, hxs79, hr⟩ := bnd_some hr
          refine GL.slice .nil rfl rfl rfl Try.underlying24 info5 rfl rfl h4 hS73.fh ⟨_, rfl⟩ ⟨_, rfl⟩ hxs79 (fun a80 cap81 hid82 h83 => ?_)
          obtain ⟨hc84, hr⟩ := chk_some hr
          have hb94 := fun b hb => (OW.id_lt (i := b) h76 hb).2
          refine GL.append (α := UInt8) hS73 .nil rfl rfl rfl Try.underlying24 Try.underlying24 rfl info5 rfl rfl rfl (by decide) rfl rfl h76 (by omega) (by omega) (SR.src h83 hS73.fh) hc84 (fun a85 cap86 n87 H88 hS89 hn90 hO91 hk92 hid93 => ?_)
          have hlon87 := hS89.lo
          refine WL.assign .nil rfl rfl rfl rfl ?_
          with_reducible refine WL.nil ?_
          with_reducible refine Ex.thn_norm ?_
          with_reducible refine W.seq ?_
          with_reducible refine W.region ?_
          refine WL.move .nil rfl rfl rfl rfl ?_
          obtain ⟨F96, hS97, hle98, h99, hf100⟩ := OW.freeze hO91 hS89
          obtain ⟨x102, hx102, hr⟩ := bnd_some hr
          have hb108 := fun b hb => (OW.id_lt (i := b) hO91 hb).2
          refine GL.callP g.good .nil rfl rfl rfl rfl rfl rfl Try.func118 rfl rfl hS89.lo (f_spec_l01Crc_k  g hS97 h99 hx102) (fun v n103 H104 hn105 hk106 hp107 => ?_)
          obtain ⟨hS109, rfl⟩ := hp107
          have h110 := OW.keep (n' := n103) hO91 (by omega) (fun i hi => hk106 i (OW.id_lt hO91 hi).2)
          have hS111 : St n0 n103 H104 F0 := ⟨by have := hS89.lo; omega, hS109.hb, fun i o hi => (hk106 i (hS89.lt (hS89.fh i o hi))).trans (hS89.fh i o hi)⟩
          have hlon103 := hS111.lo
          obtain ⟨x112, hx112, hr⟩ := bnd_some hr
          have hb118 := fun b hb => (OW.id_lt (i := b) h110 hb).2
          refine GL.callP g.good .nil rfl rfl rfl rfl rfl rfl Try.func117 rfl rfl hS111.lo (f_spec_l01Four_k  g hS111 hx112) (fun v n113 H114 hn115 hk116 hp117 => ?_)
          obtain ⟨a119, cap120, hS122, rfl, h121⟩ := hp117
          have h123 := OW.keep (n' := n113) h110 (by omega) (fun i hi => hk116 i (OW.id_lt h110 hi).2)
          have hS124 : St n0 n113 H114 F0 := ⟨by have := hS111.lo; omega, hS122.hb, hS122.fh⟩
          have hlon113 := hS124.lo
          have h125 := OW.lower (lo' := n0) h121 (by omega)
          have ap127 : ∀ b, idOf (.slice a119 x112.length cap120) = some b → idOf (.slice a85 (([] : List UInt8) ++ xs79).length cap86) ≠ some b := fun b hj hi => by have := (OW.id_lt h121 hj).1; have := hb118 b hi; omega
          refine WL.assign .nil rfl rfl rfl rfl ?_
          with_reducible refine WL.nil ?_
          with_reducible refine Ex.thn_norm ?_
          with_reducible refine W.seq ?_
          with_reducible refine W.seq ?_
          with_reducible refine W.region ?_
          refine WL.assign .nil rfl rfl rfl rfl ?_
          with_reducible refine WL.nil ?_
          with_reducible refine Ex.thn_norm ?_
          with_reducible refine W.block ?_
          refine W.loopF (fun k0 fr n H => ∃ (x529 : Int) (F : Heap), fr = [(0, .slice a2 xs1.length cap3), (7, .int .i64 x6.1), (8, .int .i64 x6.2.1), (10, .slice a85 (([] : List UInt8) ++ xs79).length cap86), (11, .slice a119 x112.length cap120), (12, .int .i64 x529)] ∧ St n0 n H F ∧ Ext n0 F0 n F ∧ SR F (.slice a2 xs1.length cap3) xs1 ∧ OW n0 n H F (.slice a85 (([] : List UInt8) ++ xs79).length cap86) (([] : List UInt8) ++ xs79) ∧ OW n0 n H F (.slice a119 x112.length cap120) x112 ∧ (∀ b, idOf (.slice a119 x112.length cap120) = some b → idOf (.slice a85 (([] : List UInt8) ++ xs79).length cap86) ≠ some b) ∧ f_spec_l01Next_L0 x6 xs1 x112 xs79 k0 x529 = some res) BIG (fr0 := [(0, .slice a2 xs1.length cap3), (7, .int .i64 x6.1), (8, .int .i64 x6.2.1), (10, .slice a85 (([] : List UInt8) ++ xs79).length cap86), (11, .slice a119 x112.length cap120), (12, .int .i64 0)]) (Fr.le_cons rfl (Fr.le_cons rfl (Fr.le_cons rfl (Fr.le_cons rfl (Fr.le_cons rfl (Fr.le_cons rfl Fr.le_nil)))))) ?_ ?_ ?_
          · exact ⟨0, F0, rfl, hS124, (hE0.up (by omega)), h4, h123, h125, ap127, hr⟩
          · intro fr n H hI
            obtain ⟨x529, F523, hfr, hS524, hE525, h526, h527, h528, ap530, hr⟩ := hI
            rw [f_spec_l01Next_L0] at hr
            cases hr
          · intro k0 _ n521 H522 hI
            obtain ⟨x529, F523, rfl, hS524, hE525, h526, h527, h528, ap530, hr⟩ := hI
            have hlen521 := hE525.le
            have hlon521 := hS524.lo
            rw [f_spec_l01Next_L0] at hr
            with_reducible refine W.seq ?_
            with_reducible refine W.seq ?_
            with_reducible refine W.region ?_
            refine WL.move .nil rfl rfl rfl rfl ?_
            refine WL.bin .nil rfl rfl rfl rfl rfl rfl ?_
            with_reducible refine WL.nil ?_
            with_reducible refine Ex.thn_norm ?_
            refine W.condD rfl (fun hc532 => ?_) (fun hc532 => ?_)
            · replace hr := ite_pos hr hc532
              with_reducible refine W.skip ?_
              with_reducible refine Ex.thn_norm ?_
              with_reducible refine W.seq ?_
              with_reducible refine W.block ?_
              with_reducible refine W.seq ?_
              refine W.regionD [0, 1, 2, 3, 4, 5, 6, 7, 8, 9, 10, 11, 12] [false, false, false, false, false, false, false, false, false, false, false, false, false] rfl rfl (by kernel_rfl) (by kernel_rfl) (by (conv => lhs; simp only [List.map_cons, List.map_nil, List.getD_cons_zero, List.getD_cons_succ]) <;> rfl) ?_
              refine WL.move .r rfl rfl rfl rfl ?_
              refine WL.move .r rfl rfl rfl rfl ?_
              refine WL.move .r rfl rfl rfl rfl ?_
              obtain ⟨hc566, hr⟩ := chk_some hr
              refine WL.addI .r rfl rfl rfl rfl rfl hc566.1 hc566.2 ?_
              refine WL.move .r rfl rfl rfl rfl ?_
              obtain ⟨hc567, hr⟩ := chk_some hr
              refine WL.addI .r rfl rfl rfl rfl rfl hc567.1 hc567.2 ?_
              obtain ⟨x568, hx568, hr⟩ := bnd_some hr
              refine GL.index .r rfl rfl rfl Try.underlying24 info5 rfl rfl h526 hS524.fh rfl hx568 (fun b569 kp570 c571 ecs572 hrow573 hwin574 hR575 => ?_)
              have hcs : _ = ([u8 x568] : List Value) := hR575
              subst hcs
              refine WL.load1 .r rfl rfl rfl Try.underlying5 rfl rfl hrow573 ((win_get0 hwin574 (show (0 : Nat) < 1 by decide)).trans rfl) ?_
              refine WL.move .r rfl rfl rfl rfl ?_
              refine WL.move .r rfl rfl rfl rfl ?_
              obtain ⟨x576, hx576, hr⟩ := bnd_some hr
              refine GL.indexO .r rfl rfl rfl Try.underlying24 info5 rfl rfl h528 rfl hx576 (fun b577 kp578 c579 ecs580 hid584 hrow581 hwin582 hR583 hup585 => ?_)
              have hcs : _ = ([u8 x576] : List Value) := hR583
              subst hcs
              refine WL.load1 .r rfl rfl rfl Try.underlying5 rfl rfl hrow581 ((win_get0 hwin582 (show (0 : Nat) < 1 by decide)).trans rfl) ?_
              refine WL.bin .r rfl rfl rfl rfl rfl rfl ?_
              with_reducible refine WL.nil ?_
              with_reducible refine Ex.thn_norm ?_
              refine W.condN rfl (fun hc586 => ?_) (fun hc586 => ?_)
              · replace hr := ite_neg hr hc586
                with_reducible refine W.seq ?_
                with_reducible refine W.region ?_
                have hb591 := fun b hb => (OW.id_lt (i := b) h527 hb).2
                have hb592 := fun b hb => (OW.id_lt (i := b) h528 hb).2
                refine GL.lit (cs := []) (xs := ([] : List UInt8)) hS524 .nil rfl rfl rfl Try.underlying24 info5 rfl rfl rfl (by decide) (by decide) rfl rfl rfl rfl rfl RA.nil rfl (fun H587 hS588 hO589 hk590 => ?_)
                have h593 := OW.keep (n' := (n521 + 1)) h527 (by omega) (fun i hi => hk590 i (OW.id_lt h527 hi).2)
                have h594 := OW.keep (n' := (n521 + 1)) h528 (by omega) (fun i hi => hk590 i (OW.id_lt h528 hi).2)
                have h595 := OW.lower (lo' := n0) hO589 (by omega)
                have hlon5211 := hS588.lo
                have ap597 : ∀ b, idOf (.slice (some ⟨n521, 0, none⟩) ([] : List UInt8).length 0) = some b → idOf (.slice a85 (([] : List UInt8) ++ xs79).length cap86) ≠ some b := fun b hj hi => by have := (OW.id_lt hO589 hj).1; have := hb591 b hi; omega
                have ap598 : ∀ b, idOf (.slice (some ⟨n521, 0, none⟩) ([] : List UInt8).length 0) = some b → idOf (.slice a119 x112.length cap120) ≠ some b := fun b hj hi => by have := (OW.id_lt hO589 hj).1; have := hb592 b hi; omega
                refine WL.assign .nil rfl rfl rfl rfl ?_
                refine WL.assign .nil rfl rfl rfl rfl ?_
                refine WL.assign .nil rfl rfl rfl rfl ?_
                with_reducible refine WL.nil ?_
                with_reducible refine Ex.thn_norm ?_
                with_reducible refine W.ret ?_
                with_reducible refine Ex.blk_ret ?_
                with_reducible refine Ex.thn_ret ?_
                with_reducible refine Ex.thn_ret ?_
                with_reducible refine Ex.blk_ret ?_
                with_reducible refine Ex.thn_ret ?_
                obtain rfl := Option.some.inj hr
                exact ⟨.inr rfl, _, (.cons (.tmp rfl) (.cons (.tmp rfl) (.cons (.tmp rfl) .nil))), ⟨(some ⟨n521, 0, none⟩), 0, (Ext.st hE525 hS588), rfl, (OW.downSc hE525.sub h595)⟩⟩
              · replace hr := ite_pos hr hc586
                with_reducible refine W.skip ?_
                with_reducible refine Ex.blk_norm ?_
                with_reducible refine Ex.thn_norm ?_
                with_reducible refine W.region ?_
                refine WL.move .nil rfl rfl rfl rfl ?_
                obtain ⟨hc599, hr⟩ := chk_some hr
                refine WL.addI .nil rfl rfl rfl rfl rfl hc599.1 hc599.2 ?_
                refine WL.assign .nil rfl rfl rfl rfl ?_
                with_reducible refine WL.nil ?_
                with_reducible refine Ex.thn_norm ?_
                exact ⟨[(0, .slice a2 xs1.length cap3), (7, .int .i64 x6.1), (8, .int .i64 x6.2.1), (10, .slice a85 (([] : List UInt8) ++ xs79).length cap86), (11, .slice a119 x112.length cap120), (12, .int .i64 (x529 + 1))], (Fr.le_cons rfl (Fr.le_cons rfl (Fr.le_cons rfl (Fr.le_cons rfl (Fr.le_cons rfl (Fr.le_cons rfl Fr.le_nil)))))), (x529 + 1), F523, rfl, hS524, hE525, h526, h527, h528, ap530, hr⟩
            · replace hr := ite_neg hr hc532
              with_reducible refine W.exit ?_
              with_reducible refine Ex.thn_ex ?_
              with_reducible refine Ex.thn_ex ?_
              with_reducible refine Ex.blk_here ?_
              with_reducible refine Ex.thn_norm ?_
              with_reducible refine W.seq ?_
              with_reducible refine W.region ?_
              refine WL.move .nil rfl rfl rfl rfl ?_
              refine WL.move .nil rfl rfl rfl rfl ?_
              refine WL.move .nil rfl rfl rfl rfl ?_
              obtain ⟨hc600, hr⟩ := chk_some hr
              refine WL.addI .nil rfl rfl rfl rfl rfl hc600.1 hc600.2 ?_
              obtain ⟨hc601, hr⟩ := chk_some hr
              refine WL.addI .nil rfl rfl rfl rfl rfl hc601.1 hc601.2 ?_
              refine WL.assign .nil rfl rfl rfl rfl ?_
              refine WL.assign .nil rfl rfl rfl rfl ?_
              refine WL.assign .nil rfl rfl rfl rfl ?_
              with_reducible refine WL.nil ?_
              with_reducible refine Ex.thn_norm ?_
              with_reducible refine W.ret ?_
              obtain rfl := Option.some.inj hr
              exact ⟨.inr rfl, _, (.cons (.tmp rfl) (.cons (.tmp rfl) (.cons (.tmp rfl) .nil))), ⟨a85, cap86, (Ext.st hE525 hS524), rfl, (OW.downSc hE525.sub h527)⟩⟩
theorem f_spec_l02In_k {Δ : Prims} (g : Env Try.prog Δ) {lo n0 : Nat} {H0 F0 : Heap} (hS : St lo n0 H0 F0) {x1 : Int} {x2 : Int} {x3 : Int} {res : (Bool)} (hr : f_spec_l02In x1 x2 x3 = some res) :
    C Try.prog Δ n0 130 [.int .i64 x1, .int .i64 x2, .int .i64 x3] n0 H0 (fun v n H => St n0 n H F0 ∧ v = .bool res) := by
  refine C.body Try.func130 rfl rfl ?_
  unfold f_spec_l02In at hr
  have hS0 : St n0 n0 H0 F0 := hS.low (Nat.le_refl _)
  have hE0 := Ext.refl n0 F0
  have hlo0 := hS0.lo
  with_reducible refine W.seq ?_
  with_reducible refine W.region ?_
  refine WL.assign .nil rfl rfl rfl rfl ?_
  with_reducible refine WL.nil ?_
  with_reducible refine Ex.thn_norm ?_
  with_reducible refine W.seq ?_
  with_reducible refine W.region ?_
  refine WL.move .nil rfl rfl rfl rfl ?_
  refine WL.move .nil rfl rfl rfl rfl ?_
  refine WL.bin .nil rfl rfl rfl rfl rfl rfl ?_
  refine WL.move .nil rfl rfl rfl rfl ?_
  refine WL.guardD rfl rfl rfl (fun hg4 => ?_) (fun hg4 => ?_)
  · replace hr := ite_pos hr hg4
    refine WL.move .nil rfl rfl rfl rfl ?_
    refine WL.move .nil rfl rfl rfl rfl ?_
    refine WL.bin .nil rfl rfl rfl rfl rfl rfl ?_
    refine WL.pick .nil rfl rfl rfl rfl rfl ?_
    refine WL.assign .nil rfl rfl rfl rfl ?_
    with_reducible refine WL.nil ?_
    with_reducible refine Ex.thn_norm ?_
    with_reducible refine W.ret ?_
    obtain rfl := Option.some.inj hr
    exact ⟨.inr rfl, _, (.cons (.tmp rfl) .nil), ⟨(Ext.st hE0 hS0), rfl⟩⟩
  · replace hr := ite_neg hr hg4
    refine WL.skip .nil rfl rfl ?_
    refine WL.skip .nil rfl rfl ?_
    refine WL.skip .nil rfl rfl ?_
    refine WL.pick .nil rfl rfl rfl rfl rfl ?_
    refine WL.assign .nil rfl rfl rfl rfl ?_
    with_reducible refine WL.nil ?_
    with_reducible refine Ex.thn_norm ?_
    with_reducible refine W.ret ?_
    obtain rfl := Option.some.inj hr
    exact ⟨.inr rfl, _, (.cons (.tmp rfl) .nil), ⟨(Ext.st hE0 hS0), rfl⟩⟩
theorem f_spec_l03Numbers_k {Δ : Prims} (g : Env Try.prog Δ) {lo n0 : Nat} {H0 F0 : Heap} (hS : St lo n0 H0 F0) {a2 : Option Addr} {cap3 : Nat} {xs1 : (List UInt8)} (h4 : SR F0 (.slice a2 xs1.length cap3) xs1) {res : (Int × Int × (List UInt8) × Bool)} (hr : f_spec_l03Numbers xs1 = some res) :
    C Try.prog Δ n0 119 [.slice a2 xs1.length cap3] n0 H0 (fun v n H => ∃ (F : Heap) (ra1 : Option Addr) (rcap2 : Nat), Ext n0 F0 n F ∧ St n0 n H F ∧ v = .tuple #[.int .i64 res.1, .int .i64 res.2.1, .slice ra1 res.2.2.1.length rcap2, .bool res.2.2.2] ∧ SR F (.slice ra1 res.2.2.1.length rcap2) res.2.2.1) := by
  refine C.body Try.func119 rfl rfl ?_
  unfold f_spec_l03Numbers at hr
  have hS0 : St n0 n0 H0 F0 := hS.low (Nat.le_refl _)
  have hE0 := Ext.refl n0 F0
  have hlo0 := hS0.lo
  with_reducible refine W.seq ?_
  with_reducible refine W.region ?_
  refine WL.assign .nil rfl rfl rfl rfl ?_
  refine WL.assign .nil rfl rfl rfl rfl ?_
  refine WL.assign .nil rfl rfl rfl rfl ?_
  refine WL.assign .nil rfl rfl rfl rfl ?_
  with_reducible refine WL.nil ?_
  with_reducible refine Ex.thn_norm ?_
  with_reducible refine W.seq ?_
  with_reducible refine W.region ?_
  refine WL.move .nil rfl rfl rfl rfl ?_
  obtain ⟨x5, hx5, hr⟩ := bnd_some hr
  refine GL.callP g.good .nil rfl rfl rfl rfl rfl rfl Try.func116 rfl rfl hS0.lo (f_spec_l01Get_k  g hS0 h4 hx5) (fun v n6 H7 hn8 hk9 hp10 => ?_)
  obtain ⟨hS11, rfl⟩ := hp10
  have hS12 : St n0 n6 H7 F0 := ⟨by have := hS0.lo; omega, hS11.hb, hS11.fh⟩
  have hlon6 := hS12.lo
  refine WL.move .nil rfl rfl rfl rfl ?_
  refine WL.extract .nil rfl rfl rfl rfl rfl ?_
  refine WL.extract .nil rfl rfl rfl rfl rfl ?_
  refine WL.extract .nil rfl rfl rfl rfl rfl ?_
  refine WL.assign .nil rfl rfl rfl rfl ?_
  refine WL.assign .nil rfl rfl rfl rfl ?_
  refine WL.assign .nil rfl rfl rfl rfl ?_
  with_reducible refine WL.nil ?_
  with_reducible refine Ex.thn_norm ?_
  with_reducible refine W.seq ?_
  with_reducible refine W.seq ?_
  with_reducible refine W.region ?_
  refine WL.move .nil rfl rfl rfl rfl ?_
  refine WL.bin .nil rfl rfl rfl rfl rfl rfl ?_
  with_reducible refine WL.nil ?_
  with_reducible refine Ex.thn_norm ?_
  refine W.condN rfl (fun hc20 => ?_) (fun hc20 => ?_)
  · replace hr := ite_neg hr hc20
    with_reducible refine W.seq ?_
    with_reducible refine W.region ?_
    refine GL.lit (cs := []) (xs := ([] : List UInt8)) hS12 .nil rfl rfl rfl Try.underlying24 info5 rfl rfl rfl (by decide) (by decide) rfl rfl rfl rfl rfl RA.nil rfl (fun H21 hS22 hO23 hk24 => ?_)
    have h25 := OW.lower (lo' := n0) hO23 (by omega)
    have hlon61 := hS22.lo
    refine WL.assign .nil rfl rfl rfl rfl ?_
    refine WL.assign .nil rfl rfl rfl rfl ?_
    refine WL.assign .nil rfl rfl rfl rfl ?_
    refine WL.assign .nil rfl rfl rfl rfl ?_
    with_reducible refine WL.nil ?_
    with_reducible refine Ex.thn_norm ?_
    with_reducible refine W.ret ?_
    with_reducible refine Ex.thn_ret ?_
    obtain ⟨F27, hS28, hle29, h30, hf31⟩ := OW.freeze h25 hS22
    have hE32 : Ext n0 F0 (n6 + 1) F27 := ⟨Nat.le_trans hE0.le (by omega), hE0.sub.trans hle29, fun i hi => (hf31 i (fun hj => by have := OW.id_lt h25 hj; omega)).trans (hE0.eq i hi)⟩
    obtain rfl := Option.some.inj hr
    exact ⟨.inr rfl, _, (.cons (.tmp rfl) (.cons (.tmp rfl) (.cons (.tmp rfl) (.cons (.tmp rfl) .nil)))), ⟨F27, (some ⟨n6, 0, none⟩), 0, (hE32.up (by omega)), hS28, rfl, h30⟩⟩
  · replace hr := ite_pos hr hc20
    with_reducible refine W.skip ?_
    with_reducible refine Ex.thn_norm ?_
    with_reducible refine W.seq ?_
    with_reducible refine W.region ?_
    refine WL.move .nil rfl rfl rfl rfl ?_
    refine WL.move .nil rfl rfl rfl rfl ?_
    obtain ⟨x33, hx33, hr⟩ := bnd_some hr
    refine GL.callP g.good .nil rfl rfl rfl rfl rfl rfl Try.func116 rfl rfl hS12.lo (f_spec_l01Get_k  g hS12 h4 hx33) (fun v n34 H35 hn36 hk37 hp38 => ?_)
    obtain ⟨hS39, rfl⟩ := hp38
    have hS40 : St n0 n34 H35 F0 := ⟨by have := hS12.lo; omega, hS39.hb, hS39.fh⟩
    have hlon34 := hS40.lo
    refine WL.move .nil rfl rfl rfl rfl ?_
    refine WL.extract .nil rfl rfl rfl rfl rfl ?_
    refine WL.extract .nil rfl rfl rfl rfl rfl ?_
    refine WL.extract .nil rfl rfl rfl rfl rfl ?_
    refine WL.assign .nil rfl rfl rfl rfl ?_
    refine WL.assign .nil rfl rfl rfl rfl ?_
    refine WL.assign .nil rfl rfl rfl rfl ?_
    with_reducible refine WL.nil ?_
    with_reducible refine Ex.thn_norm ?_
    with_reducible refine W.seq ?_
    with_reducible refine W.seq ?_
    with_reducible refine W.region ?_
    refine WL.move .nil rfl rfl rfl rfl ?_
    refine WL.bin .nil rfl rfl rfl rfl rfl rfl ?_
    with_reducible refine WL.nil ?_
    with_reducible refine Ex.thn_norm ?_
    refine W.condN rfl (fun hc48 => ?_) (fun hc48 => ?_)
    · replace hr := ite_neg hr hc48
      with_reducible refine W.seq ?_
      with_reducible refine W.region ?_
      refine GL.lit (cs := []) (xs := ([] : List UInt8)) hS40 .nil rfl rfl rfl Try.underlying24 info5 rfl rfl rfl (by decide) (by decide) rfl rfl rfl rfl rfl RA.nil rfl (fun H49 hS50 hO51 hk52 => ?_)
      have h53 := OW.lower (lo' := n0) hO51 (by omega)
      have hlon341 := hS50.lo
      refine WL.assign .nil rfl rfl rfl rfl ?_
      refine WL.assign .nil rfl rfl rfl rfl ?_
      refine WL.assign .nil rfl rfl rfl rfl ?_
      refine WL.assign .nil rfl rfl rfl rfl ?_
      with_reducible refine WL.nil ?_
      with_reducible refine Ex.thn_norm ?_
      with_reducible refine W.ret ?_
      with_reducible refine Ex.thn_ret ?_
      obtain ⟨F55, hS56, hle57, h58, hf59⟩ := OW.freeze h53 hS50
      have hE60 : Ext n0 F0 (n34 + 1) F55 := ⟨Nat.le_trans hE0.le (by omega), hE0.sub.trans hle57, fun i hi => (hf59 i (fun hj => by have := OW.id_lt h53 hj; omega)).trans (hE0.eq i hi)⟩
      obtain rfl := Option.some.inj hr
      exact ⟨.inr rfl, _, (.cons (.tmp rfl) (.cons (.tmp rfl) (.cons (.tmp rfl) (.cons (.tmp rfl) .nil)))), ⟨F55, (some ⟨n34, 0, none⟩), 0, (hE60.up (by omega)), hS56, rfl, h58⟩⟩
    · replace hr := ite_pos hr hc48
      with_reducible refine W.skip ?_
      with_reducible refine Ex.thn_norm ?_
      with_reducible refine W.seq ?_
      refine W.regionD [0, 1, 2, 3, 4, 5, 6, 7, 8, 9, 10, 11, 12, 13, 14] [false, false, false, false, false, false, false, false, false, false, false, false, false, false, false] rfl rfl (by kernel_rfl) (by kernel_rfl) (by (conv => lhs; simp only [List.map_cons, List.map_nil, List.getD_cons_zero, List.getD_cons_succ]) <;> rfl) ?_
      refine WL.move .r rfl rfl rfl rfl ?_
      refine WL.move .r rfl rfl rfl rfl ?_
      refine WL.move .r rfl rfl rfl rfl ?_
      refine WL.move .r rfl rfl rfl rfl ?_
      obtain ⟨xs61, hxs61, hr⟩ := bnd_some hr
      refine GL.slice .r rfl rfl rfl Try.underlying24 info5 rfl rfl h4 hS40.fh ⟨_, rfl⟩ rfl hxs61 (fun a62 cap63 hid64 h65 => ?_)
      refine WL.move .r rfl rfl rfl rfl ?_
      obtain ⟨x66, hx66, hr⟩ := bnd_some hr
      refine GL.callP g.good .r rfl rfl rfl rfl rfl rfl Try.func130 rfl rfl (Nat.le_refl _) (f_spec_l02In_k  g hS40 hx66) (fun v n67 H68 hn69 hk70 hp71 => ?_)
      obtain ⟨hS72, rfl⟩ := hp71
      have hS73 : St n0 n67 H68 F0 := ⟨by have := hS40.lo; omega, hS72.hb, hS72.fh⟩
      have hlon67 := hS73.lo
      refine WL.move .r rfl rfl rfl rfl ?_
      refine WL.guard rfl rfl rfl (fun hg74 => ?_) (fun hg74 => ?_)
      · replace hr := iteB_pos hr hg74
        refine WL.move .r rfl rfl rfl rfl ?_
        obtain ⟨x75, hx75, hr⟩ := bnd_some hr
        refine GL.callP g.good .r rfl rfl rfl rfl rfl rfl Try.func130 rfl rfl (Nat.le_refl _) (f_spec_l02In_k  g hS73 hx75) (fun v n76 H77 hn78 hk79 hp80 => ?_)
        obtain ⟨hS81, rfl⟩ := hp80
        have hS82 : St n0 n76 H77 F0 := ⟨by have := hS73.lo; omega, hS81.hb, hS81.fh⟩
        have hlon76 := hS82.lo
        refine WL.pick .r rfl rfl rfl rfl rfl ?_
        refine WL.assign .r rfl rfl rfl rfl ?_
        refine WL.assign .r rfl rfl rfl rfl ?_
        refine WL.assign .r rfl rfl rfl rfl ?_
        refine WL.assign .r rfl rfl rfl rfl ?_
        with_reducible refine WL.nil ?_
        with_reducible refine Ex.thn_norm ?_
        with_reducible refine W.ret ?_
        obtain rfl := Option.some.inj hr
        exact ⟨.inr rfl, _, (.cons (.tmp rfl) (.cons (.tmp rfl) (.cons (.tmp rfl) (.cons (.tmp rfl) .nil)))), ⟨F0, a62, cap63, (hE0.up (by omega)), hS82, rfl, h65⟩⟩
      · replace hr := iteB_neg hr hg74
        refine WL.skip .r rfl rfl ?_
        refine WL.skip .r rfl rfl ?_
        refine WL.pick .r rfl rfl rfl rfl rfl ?_
        refine WL.assign .r rfl rfl rfl rfl ?_
        refine WL.assign .r rfl rfl rfl rfl ?_
        refine WL.assign .r rfl rfl rfl rfl ?_
        refine WL.assign .r rfl rfl rfl rfl ?_
        with_reducible refine WL.nil ?_
        with_reducible refine Ex.thn_norm ?_
        with_reducible refine W.ret ?_
        obtain rfl := Option.some.inj hr
        exact ⟨.inr rfl, _, (.cons (.tmp rfl) (.cons (.tmp rfl) (.cons (.tmp rfl) (.cons (.tmp rfl) .nil)))), ⟨F0, a62, cap63, (hE0.up (by omega)), hS73, rfl, h65⟩⟩
theorem f_spec_l03TermAt_k {Δ : Prims} (g : Env Try.prog Δ) {lo n0 : Nat} {H0 F0 : Heap} (hS : St lo n0 H0 F0) {x1 : GWal} {a2 : Option Addr} {cap3 : Nat} {x5 : Int} (h4 : SR F0 (.slice a2 x1.Log.length cap3) x1.Log) {res : (Int)} (hr : f_spec_l03TermAt x1 x5 = some res) :
    C Try.prog Δ n0 89 [.agg [.int .i64 x1.Term, .int .i64 x1.Vote, .int .i64 x1.Base, .int .i64 x1.BaseTerm, .slice a2 x1.Log.length cap3, .int .i64 x1.Good].toArray, .int .i64 x5] n0 H0 (fun v n H => St n0 n H F0 ∧ v = .int .i64 res) := by
  refine C.body Try.func89 rfl rfl ?_
  unfold f_spec_l03TermAt at hr
  have hS0 : St n0 n0 H0 F0 := hS.low (Nat.le_refl _)
  have hE0 := Ext.refl n0 F0
  have hlo0 := hS0.lo
  with_reducible refine W.seq ?_
  with_reducible refine W.region ?_
  refine GL.box hS0 .nil (vc := [.int .i64 x1.Term, .int .i64 x1.Vote, .int .i64 x1.Base, .int .i64 x1.BaseTerm, .slice a2 x1.Log.length cap3, .int .i64 x1.Good]) rfl rfl rfl rfl rfl (by repeat' (first | exact List.forall_mem_nil _ | refine List.forall_mem_cons.2 ⟨?_, ?_⟩ | rfl)) (fun H6 hS7 ho8 hk9 => ?_)
  have fo10 := hS0.fnone (Nat.le_refl _)
  have hlon01 := hS7.lo
  have lt11 : n0 < (n0 + 1) := by omega
  refine WL.assign .nil rfl rfl rfl rfl ?_
  with_reducible refine WL.nil ?_
  with_reducible refine Ex.thn_norm ?_
  with_reducible refine W.seq ?_
  with_reducible refine W.seq ?_
  with_reducible refine W.region ?_
  refine WL.move .nil rfl rfl rfl rfl ?_
  refine WL.fieldAddr .nil rfl rfl rfl Try.underlying40 rfl info3 rfl rfl ?_
  refine WL.load1 .nil rfl rfl rfl Try.underlying3 rfl rfl ho8 rfl ?_
  refine WL.bin .nil rfl rfl rfl rfl rfl rfl ?_
  with_reducible refine WL.nil ?_
  with_reducible refine Ex.thn_norm ?_
  refine W.condD rfl (fun hc13 => ?_) (fun hc13 => ?_)
  · replace hr := ite_pos hr hc13
    with_reducible refine W.seq ?_
    with_reducible refine W.region ?_
    refine WL.fieldAddr .nil rfl rfl rfl Try.underlying40 rfl info3 rfl rfl ?_
    refine WL.load1 .nil rfl rfl rfl Try.underlying3 rfl rfl ho8 rfl ?_
    refine WL.assign .nil rfl rfl rfl rfl ?_
    with_reducible refine WL.nil ?_
    with_reducible refine Ex.thn_norm ?_
    with_reducible refine W.ret ?_
    with_reducible refine Ex.thn_ret ?_
    obtain rfl := Option.some.inj hr
    exact ⟨.inr rfl, _, (.cons (.tmp rfl) .nil), ⟨(Ext.st hE0 hS7), rfl⟩⟩
  · replace hr := ite_neg hr hc13
    with_reducible refine W.skip ?_
    with_reducible refine Ex.thn_norm ?_
    with_reducible refine W.seq ?_
    with_reducible refine W.region ?_
    refine WL.fieldAddr .nil rfl rfl rfl Try.underlying40 rfl info30 rfl rfl ?_
    refine WL.load1 .nil rfl rfl rfl Try.underlying30 rfl rfl ho8 rfl ?_
    refine WL.move .nil rfl rfl rfl rfl ?_
    refine WL.fieldAddr .nil rfl rfl rfl Try.underlying40 rfl info3 rfl rfl ?_
    refine WL.load1 .nil rfl rfl rfl Try.underlying3 rfl rfl ho8 rfl ?_
    obtain ⟨hc14, hr⟩ := chk_some hr
    refine WL.subI .nil rfl rfl rfl rfl rfl hc14.1 hc14.2 ?_
    obtain ⟨hc15, hr⟩ := chk_some hr
    refine WL.subI .nil rfl rfl rfl rfl rfl hc15.1 hc15.2 ?_
    obtain ⟨x16, hx16, hr⟩ := bnd_some hr
    refine GL.index .nil rfl rfl rfl Try.underlying30 info37 rfl rfl h4 hS7.fh rfl hx16 (fun b17 kp18 c19 ecs20 hrow21 hwin22 hR23 => ?_)
    obtain ⟨a24, cap25, rfl, h26⟩ := GRec.ofR hR23
    refine WL.fieldAddr .nil rfl rfl rfl Try.underlying37 rfl info3 rfl rfl ?_
    refine WL.load1 .nil rfl rfl rfl Try.underlying3 rfl rfl hrow21 ((win_get0 hwin22 (show (0 : Nat) < 3 by decide)).trans rfl) ?_
    refine WL.assign .nil rfl rfl rfl rfl ?_
    with_reducible refine WL.nil ?_
    with_reducible refine Ex.thn_norm ?_
    with_reducible refine W.ret ?_
    obtain rfl := Option.some.inj hr
    exact ⟨.inr rfl, _, (.cons (.tmp rfl) .nil), ⟨(Ext.st hE0 hS7), rfl⟩⟩
theorem f_spec_l03Take_k {Δ : Prims} (g : Env Try.prog Δ) {lo n0 : Nat} {H0 F0 : Heap} (hS : St lo n0 H0 F0) {x1 : GWal} {a2 : Option Addr} {cap3 : Nat} {a6 : Option Addr} {cap7 : Nat} {xs5 : (List UInt8)} (h4 : SR F0 (.slice a2 x1.Log.length cap3) x1.Log) (h8 : SR F0 (.slice a6 xs5.length cap7) xs5) {res : (GWal × Bool)} (hr : f_spec_l03Take x1 xs5 = some res) :
    C Try.prog Δ n0 85 [.agg [.int .i64 x1.Term, .int .i64 x1.Vote, .int .i64 x1.Base, .int .i64 x1.BaseTerm, .slice a2 x1.Log.length cap3, .int .i64 x1.Good].toArray, .slice a6 xs5.length cap7] n0 H0 (fun v n H => ∃ (F : Heap) (ra1 : Option Addr) (rcap2 : Nat), Ext n0 F0 n F ∧ St n0 n H F ∧ v = .tuple #[.agg [.int .i64 res.1.Term, .int .i64 res.1.Vote, .int .i64 res.1.Base, .int .i64 res.1.BaseTerm, .slice ra1 res.1.Log.length rcap2, .int .i64 res.1.Good].toArray, .bool res.2] ∧ SR F (.slice ra1 res.1.Log.length rcap2) res.1.Log) := by
  refine C.body Try.func85 rfl rfl ?_
  unfold f_spec_l03Take at hr
  have hS0 : St n0 n0 H0 F0 := hS.low (Nat.le_refl _)
  have hE0 := Ext.refl n0 F0
  have hlo0 := hS0.lo
  with_reducible refine W.seq ?_
  with_reducible refine W.region ?_
  refine GL.box hS0 .nil (vc := [.int .i64 x1.Term, .int .i64 x1.Vote, .int .i64 x1.Base, .int .i64 x1.BaseTerm, .slice a2 x1.Log.length cap3, .int .i64 x1.Good]) rfl rfl rfl rfl rfl (by repeat' (first | exact List.forall_mem_nil _ | refine List.forall_mem_cons.2 ⟨?_, ?_⟩ | rfl)) (fun H9 hS10 ho11 hk12 => ?_)
  have fo13 := hS0.fnone (Nat.le_refl _)
  have hlon01 := hS10.lo
  have lt14 : n0 < (n0 + 1) := by omega
  refine GL.alloc hS10 .nil (zc := [.int .i64 0, .int .i64 0, .int .i64 0, .int .i64 0, .slice none 0 0, .int .i64 0]) rfl rfl rfl info40 rfl rfl rfl (fun H15 hS16 ho17 hk18 => ?_)
  have fo19 := hS10.fnone (Nat.le_refl _)
  have ho21 := (hk18 _ (by have := lt14; omega)).trans ho11
  have hlon011 := hS16.lo
  have lt20 : (n0 + 1) < ((n0 + 1) + 1) := by omega
  refine WL.assign .nil rfl rfl rfl rfl ?_
  with_reducible refine WL.nil ?_
  with_reducible refine Ex.thn_norm ?_
  with_reducible refine W.seq ?_
  with_reducible refine W.seq ?_
  refine W.cut (fun fr n H => ∃ (x46 : Bool) (F : Heap), fr = [(1, .slice a6 xs5.length cap7), (2, .pointer (some ⟨n0, 0, none⟩)), (4, .pointer (some ⟨(n0 + 1), 0, none⟩)), (25, .bool x46)] ∧ St n0 n H F ∧ Ext n0 F0 n F ∧ H (n0 + 1) = some (.row 1 [.int .i64 0, .int .i64 0, .int .i64 0, .int .i64 0, .slice none 0 0, .int .i64 0]) ∧ F (n0 + 1) = none ∧ H n0 = some (.row 1 [.int .i64 x1.Term, .int .i64 x1.Vote, .int .i64 x1.Base, .int .i64 x1.BaseTerm, .slice a2 x1.Log.length cap3, .int .i64 x1.Good]) ∧ F n0 = none ∧ SR F (.slice a6 xs5.length cap7) xs5 ∧ SR F (.slice a2 x1.Log.length cap3) x1.Log ∧ f_spec_l03Take_J0 x1 xs5 x46 = some res) ?_ ?_
  · with_reducible refine W.region ?_
    refine WL.move .nil rfl rfl rfl rfl ?_
    refine WL.len .nil rfl rfl rfl Try.underlying24 rfl ?_
    refine WL.bin .nil rfl rfl rfl rfl rfl rfl ?_
    refine WL.move .nil rfl rfl rfl rfl ?_
    refine WL.guardD rfl rfl rfl (fun hg730 => ?_) (fun hg730 => ?_)
    · replace hr := ite_pos hr hg730
      refine WL.skip .nil rfl rfl ?_
      refine WL.skip .nil rfl rfl ?_
      refine WL.skip .nil rfl rfl ?_
      refine WL.skip .nil rfl rfl ?_
      refine WL.pick .nil rfl rfl rfl rfl rfl ?_
      refine WL.move .nil rfl rfl rfl rfl ?_
      refine WL.skip .nil rfl rfl ?_
      refine WL.skip .nil rfl rfl ?_
      refine WL.skip .nil rfl rfl ?_
      refine WL.skip .nil rfl rfl ?_
      refine WL.pick .nil rfl rfl rfl rfl rfl ?_
      with_reducible refine WL.nil ?_
      with_reducible refine Ex.thn_norm ?_
      exact ⟨[(1, .slice a6 xs5.length cap7), (2, .pointer (some ⟨n0, 0, none⟩)), (4, .pointer (some ⟨(n0 + 1), 0, none⟩)), (25, .bool true)], (Fr.le_cons rfl (Fr.le_cons rfl (Fr.le_cons rfl (Fr.le_cons rfl Fr.le_nil)))), true, F0, rfl, hS16, (hE0.up (by omega)), ho17, fo19, ho21, fo13, h8, h4, hr⟩
    · replace hr := ite_neg hr hg730
      refine WL.move .nil rfl rfl rfl rfl ?_
      obtain ⟨x731, hx731, hr⟩ := bnd_some hr
      refine GL.index .nil rfl rfl rfl Try.underlying24 info5 rfl rfl h8 hS16.fh rfl hx731 (fun b732 kp733 c734 ecs735 hrow736 hwin737 hR738 => ?_)
      have hcs : _ = ([u8 x731] : List Value) := hR738
      subst hcs
      refine WL.load1 .nil rfl rfl rfl Try.underlying5 rfl rfl hrow736 ((win_get0 hwin737 (show (0 : Nat) < 1 by decide)).trans rfl) ?_
      refine WL.bin .nil rfl rfl rfl rfl rfl rfl ?_
      refine WL.pick .nil rfl rfl rfl rfl rfl ?_
      refine WL.move .nil rfl rfl rfl rfl ?_
      refine WL.guardD rfl rfl rfl (fun hg739 => ?_) (fun hg739 => ?_)
      · replace hr := ite_pos hr hg739
        refine WL.skip .nil rfl rfl ?_
        refine WL.skip .nil rfl rfl ?_
        refine WL.skip .nil rfl rfl ?_
        refine WL.skip .nil rfl rfl ?_
        refine WL.pick .nil rfl rfl rfl rfl rfl ?_
        with_reducible refine WL.nil ?_
        with_reducible refine Ex.thn_norm ?_
        exact ⟨[(1, .slice a6 xs5.length cap7), (2, .pointer (some ⟨n0, 0, none⟩)), (4, .pointer (some ⟨(n0 + 1), 0, none⟩)), (25, .bool true)], (Fr.le_cons rfl (Fr.le_cons rfl (Fr.le_cons rfl (Fr.le_cons rfl Fr.le_nil)))), true, F0, rfl, hS16, (hE0.up (by omega)), ho17, fo19, ho21, fo13, h8, h4, hr⟩
      · replace hr := ite_neg hr hg739
        refine WL.move .nil rfl rfl rfl rfl ?_
        obtain ⟨x740, hx740, hr⟩ := bnd_some hr
        refine GL.index .nil rfl rfl rfl Try.underlying24 info5 rfl rfl h8 hS16.fh rfl hx740 (fun b741 kp742 c743 ecs744 hrow745 hwin746 hR747 => ?_)
        have hcs : _ = ([u8 x740] : List Value) := hR747
        subst hcs
        refine WL.load1 .nil rfl rfl rfl Try.underlying5 rfl rfl hrow745 ((win_get0 hwin746 (show (0 : Nat) < 1 by decide)).trans rfl) ?_
        refine WL.bin .nil rfl rfl rfl rfl rfl rfl ?_
        refine WL.pick .nil rfl rfl rfl rfl rfl ?_
        with_reducible refine WL.nil ?_
        with_reducible refine Ex.thn_norm ?_
        exact ⟨[(1, .slice a6 xs5.length cap7), (2, .pointer (some ⟨n0, 0, none⟩)), (4, .pointer (some ⟨(n0 + 1), 0, none⟩)), (25, .bool (decide ((3 : Int) < (x740.toNat : Int))))], (Fr.le_cons rfl (Fr.le_cons rfl (Fr.le_cons rfl (Fr.le_cons rfl Fr.le_nil)))), (decide ((3 : Int) < (x740.toNat : Int))), F0, rfl, hS16, (hE0.up (by omega)), ho17, fo19, ho21, fo13, h8, h4, hr⟩
  · intro _ n40 H41 hI
    obtain ⟨x46, F42, rfl, hS43, hE44, ho47, fo48, ho50, fo51, h45, h49, hr⟩ := hI
    have lt52 := hS43.lt ho47
    have lt53 := hS43.lt ho50
    have hlen40 := hE44.le
    have hlon40 := hS43.lo
    unfold f_spec_l03Take_J0 at hr
    refine W.cond rfl (fun hc60 => ?_) (fun hc60 => ?_)
    · replace hr := iteB_pos hr hc60
      with_reducible refine W.seq ?_
      with_reducible refine W.region ?_
      refine WL.loadN .nil (l' := [.int .i64 x1.Term, .int .i64 x1.Vote, .int .i64 x1.Base, .int .i64 x1.BaseTerm, .slice a2 x1.Log.length cap3, .int .i64 x1.Good]) rfl rfl rfl Try.underlying40 rfl info40 rfl ho50 rfl rfl ?_
      refine GL.store hS43 .nil (vc := [.int .i64 x1.Term, .int .i64 x1.Vote, .int .i64 x1.Base, .int .i64 x1.BaseTerm, .slice a2 x1.Log.length cap3, .int .i64 x1.Good]) (c' := [.int .i64 x1.Term, .int .i64 x1.Vote, .int .i64 x1.Base, .int .i64 x1.BaseTerm, .slice a2 x1.Log.length cap3, .int .i64 x1.Good]) rfl rfl rfl info40 rfl rfl rfl rfl ho47 fo48 (Nat.le_of_ble_eq_true rfl) (by omega) (by repeat' (first | exact List.forall_mem_nil _ | refine List.forall_mem_cons.2 ⟨?_, ?_⟩ | rfl)) rfl (fun H61 hS62 ho63 hk64 => ?_)
      have ho65 := (hk64 _ (by omega)).trans ho50
      refine WL.assign .nil rfl rfl rfl rfl ?_
      with_reducible refine WL.nil ?_
      with_reducible refine Ex.thn_norm ?_
      with_reducible refine W.ret ?_
      with_reducible refine Ex.thn_ret ?_
      obtain rfl := Option.some.inj hr
      exact ⟨.inr rfl, _, (.cons (.cellN (l := [.int .i64 x1.Term, .int .i64 x1.Vote, .int .i64 x1.Base, .int .i64 x1.BaseTerm, .slice a2 x1.Log.length cap3, .int .i64 x1.Good]) rfl Try.underlying40 rfl info40 ho63 rfl rfl) (.cons (.tmp rfl) .nil)), ⟨F42, a2, cap3, (hE44.up (by omega)), hS62, rfl, h49⟩⟩
    · replace hr := iteB_neg hr hc60
      with_reducible refine W.skip ?_
      with_reducible refine Ex.thn_norm ?_
      with_reducible refine W.seq ?_
      with_reducible refine W.region ?_
      refine WL.move .nil rfl rfl rfl rfl ?_
      obtain ⟨xs66, hxs66, hr⟩ := bnd_some hr
      refine GL.slice .nil rfl rfl rfl Try.underlying24 info5 rfl rfl h45 hS43.fh ⟨_, rfl⟩ rfl hxs66 (fun a67 cap68 hid69 h70 => ?_)
      obtain ⟨x71, hx71, hr⟩ := bnd_some hr
      refine GL.callP g.good .nil rfl rfl rfl rfl rfl rfl Try.func119 rfl rfl hS43.lo (f_spec_l03Numbers_k  g hS43 h70 hx71) (fun v n72 H73 hn74 hk75 hp76 => ?_)
      obtain ⟨F81, a77, cap78, hX82, hS80, rfl, h79⟩ := hp76
      have ho83 := (hk75 _ (by have := lt52; omega)).trans ho47
      have ho84 := (hk75 _ (by have := lt53; omega)).trans ho50
      have hS85 : St n0 n72 H73 F81 := ⟨by have := hS43.lo; omega, hS80.hb, hS80.fh⟩
      have fo86 := (hX82.eq _ (by have := lt52; omega)).trans fo48
      have fo87 := (hX82.eq _ (by have := lt53; omega)).trans fo51
      have hE88 := (hE44.up (n' := n40) (by omega)).trans hX82
      have hlon72 := hS85.lo
      refine WL.move .nil rfl rfl rfl rfl ?_
      refine WL.extract .nil rfl rfl rfl rfl rfl ?_
      refine WL.extract .nil rfl rfl rfl rfl rfl ?_
      refine WL.extract .nil rfl rfl rfl rfl rfl ?_
      refine WL.extract .nil rfl rfl rfl rfl rfl ?_
      refine WL.assign .nil rfl rfl rfl rfl ?_
      refine WL.assign .nil rfl rfl rfl rfl ?_
      refine WL.assign .nil rfl rfl rfl rfl ?_
      refine WL.assign .nil rfl rfl rfl rfl ?_
      with_reducible refine WL.nil ?_
      with_reducible refine Ex.thn_norm ?_
      with_reducible refine W.seq ?_
      with_reducible refine W.seq ?_
      refine W.cut (fun fr n H => ∃ (x106 : Bool) (F : Heap), fr = [(1, .slice a6 xs5.length cap7), (2, .pointer (some ⟨n0, 0, none⟩)), (4, .pointer (some ⟨(n0 + 1), 0, none⟩)), (6, .int .i64 x71.1), (7, .int .i64 x71.2.1), (8, .slice a77 x71.2.2.1.length cap78), (47, .bool x106)] ∧ St n0 n H F ∧ Ext n0 F0 n F ∧ H (n0 + 1) = some (.row 1 [.int .i64 0, .int .i64 0, .int .i64 0, .int .i64 0, .slice none 0 0, .int .i64 0]) ∧ F (n0 + 1) = none ∧ H n0 = some (.row 1 [.int .i64 x1.Term, .int .i64 x1.Vote, .int .i64 x1.Base, .int .i64 x1.BaseTerm, .slice a2 x1.Log.length cap3, .int .i64 x1.Good]) ∧ F n0 = none ∧ SR F (.slice a6 xs5.length cap7) xs5 ∧ SR F (.slice a77 x71.2.2.1.length cap78) x71.2.2.1 ∧ SR F (.slice a2 x1.Log.length cap3) x1.Log ∧ f_spec_l03Take_J1 x1 xs5 x71 x106 = some res) ?_ ?_
      · with_reducible refine W.region ?_
        refine WL.move .nil rfl rfl rfl rfl ?_
        refine WL.not .nil rfl rfl rfl rfl ?_
        refine WL.move .nil rfl rfl rfl rfl ?_
        refine WL.guard rfl rfl rfl (fun hg720 => ?_) (fun hg720 => ?_)
        · replace hr := iteB_pos hr hg720
          refine WL.skip .nil rfl rfl ?_
          refine WL.skip .nil rfl rfl ?_
          refine WL.skip .nil rfl rfl ?_
          refine WL.skip .nil rfl rfl ?_
          refine WL.skip .nil rfl rfl ?_
          refine WL.skip .nil rfl rfl ?_
          refine WL.skip .nil rfl rfl ?_
          refine WL.skip .nil rfl rfl ?_
          refine WL.skip .nil rfl rfl ?_
          refine WL.pick .nil rfl rfl rfl rfl rfl ?_
          with_reducible refine WL.nil ?_
          with_reducible refine Ex.thn_norm ?_
          exact ⟨[(1, .slice a6 xs5.length cap7), (2, .pointer (some ⟨n0, 0, none⟩)), (4, .pointer (some ⟨(n0 + 1), 0, none⟩)), (6, .int .i64 x71.1), (7, .int .i64 x71.2.1), (8, .slice a77 x71.2.2.1.length cap78), (47, .bool true)], (Fr.le_cons rfl (Fr.le_cons rfl (Fr.le_cons rfl (Fr.le_cons rfl (Fr.le_cons rfl (Fr.le_cons rfl (Fr.le_cons rfl Fr.le_nil))))))), true, F81, rfl, hS85, hE88, ho83, fo86, ho84, fo87, (h45.mono hX82.sub), h79, (h49.mono hX82.sub), hr⟩
        · replace hr := iteB_neg hr hg720
          refine WL.move .nil rfl rfl rfl rfl ?_
          obtain ⟨x721, hx721, hr⟩ := bnd_some hr
          refine GL.index .nil rfl rfl rfl Try.underlying24 info5 rfl rfl (h45.mono hX82.sub) hS85.fh rfl hx721 (fun b722 kp723 c724 ecs725 hrow726 hwin727 hR728 => ?_)
          have hcs : _ = ([u8 x721] : List Value) := hR728
          subst hcs
          refine WL.load1 .nil rfl rfl rfl Try.underlying5 rfl rfl hrow726 ((win_get0 hwin727 (show (0 : Nat) < 1 by decide)).trans rfl) ?_
          refine WL.bin .nil rfl rfl rfl rfl rfl rfl ?_
          refine WL.move .nil rfl rfl rfl rfl ?_
          refine WL.guardN rfl rfl rfl (fun hg729 => ?_) (fun hg729 => ?_)
          · replace hr := ite_neg hr hg729
            refine WL.move .nil rfl rfl rfl rfl ?_
            refine WL.len .nil rfl rfl rfl Try.underlying24 rfl ?_
            refine WL.bin .nil rfl rfl rfl rfl rfl rfl ?_
            refine WL.pick .nil rfl rfl rfl rfl rfl ?_
            refine WL.pick .nil rfl rfl rfl rfl rfl ?_
            with_reducible refine WL.nil ?_
            with_reducible refine Ex.thn_norm ?_
            exact ⟨[(1, .slice a6 xs5.length cap7), (2, .pointer (some ⟨n0, 0, none⟩)), (4, .pointer (some ⟨(n0 + 1), 0, none⟩)), (6, .int .i64 x71.1), (7, .int .i64 x71.2.1), (8, .slice a77 x71.2.2.1.length cap78), (47, .bool (decide ((0 : Int) < (x71.2.2.1.length : Int))))], (Fr.le_cons rfl (Fr.le_cons rfl (Fr.le_cons rfl (Fr.le_cons rfl (Fr.le_cons rfl (Fr.le_cons rfl (Fr.le_cons rfl Fr.le_nil))))))), (decide ((0 : Int) < (x71.2.2.1.length : Int))), F81, rfl, hS85, hE88, ho83, fo86, ho84, fo87, (h45.mono hX82.sub), h79, (h49.mono hX82.sub), hr⟩
          · replace hr := ite_pos hr hg729
            refine WL.skip .nil rfl rfl ?_
            refine WL.skip .nil rfl rfl ?_
            refine WL.skip .nil rfl rfl ?_
            refine WL.pick .nil rfl rfl rfl rfl rfl ?_
            refine WL.pick .nil rfl rfl rfl rfl rfl ?_
            with_reducible refine WL.nil ?_
            with_reducible refine Ex.thn_norm ?_
            exact ⟨[(1, .slice a6 xs5.length cap7), (2, .pointer (some ⟨n0, 0, none⟩)), (4, .pointer (some ⟨(n0 + 1), 0, none⟩)), (6, .int .i64 x71.1), (7, .int .i64 x71.2.1), (8, .slice a77 x71.2.2.1.length cap78), (47, .bool false)], (Fr.le_cons rfl (Fr.le_cons rfl (Fr.le_cons rfl (Fr.le_cons rfl (Fr.le_cons rfl (Fr.le_cons rfl (Fr.le_cons rfl Fr.le_nil))))))), false, F81, rfl, hS85, hE88, ho83, fo86, ho84, fo87, (h45.mono hX82.sub), h79, (h49.mono hX82.sub), hr⟩
      · intro _ n99 H100 hI
        obtain ⟨x106, F101, rfl, hS102, hE103, ho107, fo108, ho110, fo111, h104, h105, h109, hr⟩ := hI
        have lt112 := hS102.lt ho107
        have lt113 := hS102.lt ho110
        have hlen99 := hE103.le
        have hlon99 := hS102.lo
        unfold f_spec_l03Take_J1 at hr
        refine W.cond rfl (fun hc120 => ?_) (fun hc120 => ?_)
        · replace hr := iteB_pos hr hc120
          with_reducible refine W.seq ?_
          with_reducible refine W.region ?_
          refine WL.loadN .nil (l' := [.int .i64 x1.Term, .int .i64 x1.Vote, .int .i64 x1.Base, .int .i64 x1.BaseTerm, .slice a2 x1.Log.length cap3, .int .i64 x1.Good]) rfl rfl rfl Try.underlying40 rfl info40 rfl ho110 rfl rfl ?_
          refine GL.store hS102 .nil (vc := [.int .i64 x1.Term, .int .i64 x1.Vote, .int .i64 x1.Base, .int .i64 x1.BaseTerm, .slice a2 x1.Log.length cap3, .int .i64 x1.Good]) (c' := [.int .i64 x1.Term, .int .i64 x1.Vote, .int .i64 x1.Base, .int .i64 x1.BaseTerm, .slice a2 x1.Log.length cap3, .int .i64 x1.Good]) rfl rfl rfl info40 rfl rfl rfl rfl ho107 fo108 (Nat.le_of_ble_eq_true rfl) (by omega) (by repeat' (first | exact List.forall_mem_nil _ | refine List.forall_mem_cons.2 ⟨?_, ?_⟩ | rfl)) rfl (fun H121 hS122 ho123 hk124 => ?_)
          have ho125 := (hk124 _ (by omega)).trans ho110
          refine WL.assign .nil rfl rfl rfl rfl ?_
          with_reducible refine WL.nil ?_
          with_reducible refine Ex.thn_norm ?_
          with_reducible refine W.ret ?_
          with_reducible refine Ex.thn_ret ?_
          obtain rfl := Option.some.inj hr
          exact ⟨.inr rfl, _, (.cons (.cellN (l := [.int .i64 x1.Term, .int .i64 x1.Vote, .int .i64 x1.Base, .int .i64 x1.BaseTerm, .slice a2 x1.Log.length cap3, .int .i64 x1.Good]) rfl Try.underlying40 rfl info40 ho123 rfl rfl) (.cons (.tmp rfl) .nil)), ⟨F101, a2, cap3, (hE103.up (by omega)), hS122, rfl, h109⟩⟩
        · replace hr := iteB_neg hr hc120
          with_reducible refine W.skip ?_
          with_reducible refine Ex.thn_norm ?_
          with_reducible refine W.seq ?_
          with_reducible refine W.region ?_
          refine WL.fieldAddr .nil rfl rfl rfl Try.underlying40 rfl info3 rfl rfl ?_
          refine WL.load1 .nil rfl rfl rfl Try.underlying3 rfl rfl ho110 rfl ?_
          refine WL.fieldAddr .nil rfl rfl rfl Try.underlying40 rfl info30 rfl rfl ?_
          refine WL.load1 .nil rfl rfl rfl Try.underlying30 rfl rfl ho110 rfl ?_
          refine WL.len .nil rfl rfl rfl Try.underlying30 rfl ?_
          obtain ⟨hc126, hr⟩ := chk_some hr
          refine WL.addI .nil rfl rfl rfl rfl rfl hc126.1 hc126.2 ?_
          refine WL.assign .nil rfl rfl rfl rfl ?_
          with_reducible refine WL.nil ?_
          with_reducible refine Ex.thn_norm ?_
          with_reducible refine W.seq ?_
          with_reducible refine W.seq ?_
          with_reducible refine W.region ?_
          refine WL.move .nil rfl rfl rfl rfl ?_
          obtain ⟨x127, hx127, hr⟩ := bnd_some hr
          refine GL.index .nil rfl rfl rfl Try.underlying24 info5 rfl rfl h104 hS102.fh rfl hx127 (fun b128 kp129 c130 ecs131 hrow132 hwin133 hR134 => ?_)
          have hcs : _ = ([u8 x127] : List Value) := hR134
          subst hcs
          refine WL.load1 .nil rfl rfl rfl Try.underlying5 rfl rfl hrow132 ((win_get0 hwin133 (show (0 : Nat) < 1 by decide)).trans rfl) ?_
          with_reducible refine WL.nil ?_
          with_reducible refine Ex.thn_norm ?_
          refine W.cut (fun fr n H => ∃ (x414 : Int) (x415 : Int) (x416 : Int) (x417 : Int) (a418 : Option Addr) (cap419 : Nat) (xs420 : (List GRec)) (F : Heap), fr = [(2, .pointer (some ⟨n0, 0, none⟩)), (4, .pointer (some ⟨(n0 + 1), 0, none⟩))] ∧ St n0 n H F ∧ Ext n0 F0 n F ∧ H (n0 + 1) = some (.row 1 [.int .i64 0, .int .i64 0, .int .i64 0, .int .i64 0, .slice none 0 0, .int .i64 0]) ∧ F (n0 + 1) = none ∧ H n0 = some (.row 1 [.int .i64 x414, .int .i64 x415, .int .i64 x416, .int .i64 x417, .slice a418 xs420.length cap419, .int .i64 x1.Good]) ∧ F n0 = none ∧ SR F (.slice a418 xs420.length cap419) xs420 ∧ f_spec_l03Take_J2 x1 x414 x415 x416 x417 xs420 = some res) ?_ ?_
          · with_reducible refine W.block ?_
            with_reducible refine W.seq ?_
            with_reducible refine W.region ?_
            refine WL.bin .nil rfl rfl rfl rfl rfl rfl ?_
            refine WL.assign .nil rfl rfl rfl rfl ?_
            with_reducible refine WL.nil ?_
            with_reducible refine Ex.thn_norm ?_
            refine W.condD rfl (fun hc431 => ?_) (fun hc431 => ?_)
            · replace hr := ite_pos hr hc431
              with_reducible refine W.seq ?_
              with_reducible refine W.seq ?_
              with_reducible refine W.region ?_
              refine WL.move .nil rfl rfl rfl rfl ?_
              refine WL.fieldAddr .nil rfl rfl rfl Try.underlying40 rfl info3 rfl rfl ?_
              refine WL.load1 .nil rfl rfl rfl Try.underlying3 rfl rfl ho110 rfl ?_
              refine WL.bin .nil rfl rfl rfl rfl rfl rfl ?_
              with_reducible refine WL.nil ?_
              with_reducible refine Ex.thn_norm ?_
              refine W.condD rfl (fun hc438 => ?_) (fun hc438 => ?_)
              · replace hr := ite_pos hr hc438
                with_reducible refine W.seq ?_
                with_reducible refine W.region ?_
                refine WL.loadN .nil (l' := [.int .i64 x1.Term, .int .i64 x1.Vote, .int .i64 x1.Base, .int .i64 x1.BaseTerm, .slice a2 x1.Log.length cap3, .int .i64 x1.Good]) rfl rfl rfl Try.underlying40 rfl info40 rfl ho110 rfl rfl ?_
                refine GL.store hS102 .nil (vc := [.int .i64 x1.Term, .int .i64 x1.Vote, .int .i64 x1.Base, .int .i64 x1.BaseTerm, .slice a2 x1.Log.length cap3, .int .i64 x1.Good]) (c' := [.int .i64 x1.Term, .int .i64 x1.Vote, .int .i64 x1.Base, .int .i64 x1.BaseTerm, .slice a2 x1.Log.length cap3, .int .i64 x1.Good]) rfl rfl rfl info40 rfl rfl rfl rfl ho107 fo108 (Nat.le_of_ble_eq_true rfl) (by omega) (by repeat' (first | exact List.forall_mem_nil _ | refine List.forall_mem_cons.2 ⟨?_, ?_⟩ | rfl)) rfl (fun H439 hS440 ho441 hk442 => ?_)
                have ho443 := (hk442 _ (by omega)).trans ho110
                refine WL.assign .nil rfl rfl rfl rfl ?_
                with_reducible refine WL.nil ?_
                with_reducible refine Ex.thn_norm ?_
                with_reducible refine W.ret ?_
                with_reducible refine Ex.thn_ret ?_
                with_reducible refine Ex.blk_ret ?_
                with_reducible refine Ex.thn_ret ?_
                obtain rfl := Option.some.inj hr
                exact ⟨.inr rfl, _, (.cons (.cellN (l := [.int .i64 x1.Term, .int .i64 x1.Vote, .int .i64 x1.Base, .int .i64 x1.BaseTerm, .slice a2 x1.Log.length cap3, .int .i64 x1.Good]) rfl Try.underlying40 rfl info40 ho441 rfl rfl) (.cons (.tmp rfl) .nil)), ⟨F101, a2, cap3, (hE103.up (by omega)), hS440, rfl, h109⟩⟩
              · replace hr := ite_neg hr hc438
                with_reducible refine W.skip ?_
                with_reducible refine Ex.thn_norm ?_
                with_reducible refine W.seq ?_
                with_reducible refine W.region ?_
                refine WL.move .nil rfl rfl rfl rfl ?_
                refine WL.fieldAddr .nil rfl rfl rfl Try.underlying40 rfl info3 rfl rfl ?_
                refine GL.store hS102 .nil (vc := [.int .i64 x71.1]) (c' := [.int .i64 x71.1, .int .i64 x1.Vote, .int .i64 x1.Base, .int .i64 x1.BaseTerm, .slice a2 x1.Log.length cap3, .int .i64 x1.Good]) rfl rfl rfl info3 rfl rfl rfl rfl ho110 fo111 (Nat.le_of_ble_eq_true rfl) (by omega) (by repeat' (first | exact List.forall_mem_nil _ | refine List.forall_mem_cons.2 ⟨?_, ?_⟩ | rfl)) rfl (fun H444 hS445 ho446 hk447 => ?_)
                have ho448 := (hk447 _ (by omega)).trans ho107
                with_reducible refine WL.nil ?_
                with_reducible refine Ex.thn_norm ?_
                with_reducible refine W.region ?_
                refine WL.move .nil rfl rfl rfl rfl ?_
                refine WL.fieldAddr .nil rfl rfl rfl Try.underlying40 rfl info3 rfl rfl ?_
                refine GL.store hS445 .nil (vc := [.int .i64 x71.2.1]) (c' := [.int .i64 x71.1, .int .i64 x71.2.1, .int .i64 x1.Base, .int .i64 x1.BaseTerm, .slice a2 x1.Log.length cap3, .int .i64 x1.Good]) rfl rfl rfl info3 rfl rfl rfl rfl ho446 fo111 (Nat.le_of_ble_eq_true rfl) (by omega) (by repeat' (first | exact List.forall_mem_nil _ | refine List.forall_mem_cons.2 ⟨?_, ?_⟩ | rfl)) rfl (fun H449 hS450 ho451 hk452 => ?_)
                have ho453 := (hk452 _ (by omega)).trans ho448
                with_reducible refine WL.nil ?_
                with_reducible refine Ex.blk_norm ?_
                with_reducible refine Ex.thn_norm ?_
                exact ⟨[(2, .pointer (some ⟨n0, 0, none⟩)), (4, .pointer (some ⟨(n0 + 1), 0, none⟩))], (Fr.le_cons rfl (Fr.le_cons rfl Fr.le_nil)), x71.1, x71.2.1, x1.Base, x1.BaseTerm, a2, cap3, x1.Log, F101, rfl, hS450, hE103, ho453, fo108, ho451, fo111, h109, hr⟩
            · replace hr := ite_neg hr hc431
              with_reducible refine W.seq ?_
              with_reducible refine W.region ?_
              refine WL.bin .nil rfl rfl rfl rfl rfl rfl ?_
              refine WL.assign .nil rfl rfl rfl rfl ?_
              with_reducible refine WL.nil ?_
              with_reducible refine Ex.thn_norm ?_
              refine W.condD rfl (fun hc454 => ?_) (fun hc454 => ?_)
              · replace hr := ite_pos hr hc454
                with_reducible refine W.seq ?_
                with_reducible refine W.seq ?_
                refine W.cut (fun fr n H => ∃ (x466 : Bool) (F : Heap), fr = [(2, .pointer (some ⟨n0, 0, none⟩)), (4, .pointer (some ⟨(n0 + 1), 0, none⟩)), (6, .int .i64 x71.1), (7, .int .i64 x71.2.1), (8, .slice a77 x71.2.2.1.length cap78), (123, .bool x466)] ∧ St n0 n H F ∧ Ext n0 F0 n F ∧ H (n0 + 1) = some (.row 1 [.int .i64 0, .int .i64 0, .int .i64 0, .int .i64 0, .slice none 0 0, .int .i64 0]) ∧ F (n0 + 1) = none ∧ H n0 = some (.row 1 [.int .i64 x1.Term, .int .i64 x1.Vote, .int .i64 x1.Base, .int .i64 x1.BaseTerm, .slice a2 x1.Log.length cap3, .int .i64 x1.Good]) ∧ F n0 = none ∧ SR F (.slice a77 x71.2.2.1.length cap78) x71.2.2.1 ∧ SR F (.slice a2 x1.Log.length cap3) x1.Log ∧ f_spec_l03Take_J3 x1 x71 x466 = some res) ?_ ?_
                · with_reducible refine W.region ?_
                  refine WL.move .nil rfl rfl rfl rfl ?_
                  refine WL.fieldAddr .nil rfl rfl rfl Try.underlying40 rfl info3 rfl rfl ?_
                  refine WL.load1 .nil rfl rfl rfl Try.underlying3 rfl rfl ho110 rfl ?_
                  refine WL.bin .nil rfl rfl rfl rfl rfl rfl ?_
                  refine WL.move .nil rfl rfl rfl rfl ?_
                  refine WL.guardD rfl rfl rfl (fun hg608 => ?_) (fun hg608 => ?_)
                  · replace hr := ite_pos hr hg608
                    refine WL.skip .nil rfl rfl ?_
                    refine WL.skip .nil rfl rfl ?_
                    refine WL.skip .nil rfl rfl ?_
                    refine WL.skip .nil rfl rfl ?_
                    refine WL.pick .nil rfl rfl rfl rfl rfl ?_
                    refine WL.move .nil rfl rfl rfl rfl ?_
                    refine WL.skip .nil rfl rfl ?_
                    refine WL.skip .nil rfl rfl ?_
                    refine WL.skip .nil rfl rfl ?_
                    refine WL.pick .nil rfl rfl rfl rfl rfl ?_
                    refine WL.move .nil rfl rfl rfl rfl ?_
                    refine WL.skip .nil rfl rfl ?_
                    refine WL.skip .nil rfl rfl ?_
                    refine WL.skip .nil rfl rfl ?_
                    refine WL.skip .nil rfl rfl ?_
                    refine WL.skip .nil rfl rfl ?_
                    refine WL.pick .nil rfl rfl rfl rfl rfl ?_
                    with_reducible refine WL.nil ?_
                    with_reducible refine Ex.thn_norm ?_
                    exact ⟨[(2, .pointer (some ⟨n0, 0, none⟩)), (4, .pointer (some ⟨(n0 + 1), 0, none⟩)), (6, .int .i64 x71.1), (7, .int .i64 x71.2.1), (8, .slice a77 x71.2.2.1.length cap78), (123, .bool true)], (Fr.le_cons rfl (Fr.le_cons rfl (Fr.le_cons rfl (Fr.le_cons rfl (Fr.le_cons rfl (Fr.le_cons rfl Fr.le_nil)))))), true, F101, rfl, hS102, hE103, ho107, fo108, ho110, fo111, h105, h109, hr⟩
                  · replace hr := ite_neg hr hg608
                    refine WL.move .nil rfl rfl rfl rfl ?_
                    refine WL.move .nil rfl rfl rfl rfl ?_
                    obtain ⟨hc609, hr⟩ := chk_some hr
                    refine WL.addI .nil rfl rfl rfl rfl rfl hc609.1 hc609.2 ?_
                    refine WL.bin .nil rfl rfl rfl rfl rfl rfl ?_
                    refine WL.pick .nil rfl rfl rfl rfl rfl ?_
                    refine WL.move .nil rfl rfl rfl rfl ?_
                    refine WL.guardD rfl rfl rfl (fun hg610 => ?_) (fun hg610 => ?_)
                    · replace hr := ite_pos hr hg610
                      refine WL.skip .nil rfl rfl ?_
                      refine WL.skip .nil rfl rfl ?_
                      refine WL.skip .nil rfl rfl ?_
                      refine WL.pick .nil rfl rfl rfl rfl rfl ?_
                      refine WL.move .nil rfl rfl rfl rfl ?_
                      refine WL.skip .nil rfl rfl ?_
                      refine WL.skip .nil rfl rfl ?_
                      refine WL.skip .nil rfl rfl ?_
                      refine WL.skip .nil rfl rfl ?_
                      refine WL.skip .nil rfl rfl ?_
                      refine WL.pick .nil rfl rfl rfl rfl rfl ?_
                      with_reducible refine WL.nil ?_
                      with_reducible refine Ex.thn_norm ?_
                      exact ⟨[(2, .pointer (some ⟨n0, 0, none⟩)), (4, .pointer (some ⟨(n0 + 1), 0, none⟩)), (6, .int .i64 x71.1), (7, .int .i64 x71.2.1), (8, .slice a77 x71.2.2.1.length cap78), (123, .bool true)], (Fr.le_cons rfl (Fr.le_cons rfl (Fr.le_cons rfl (Fr.le_cons rfl (Fr.le_cons rfl (Fr.le_cons rfl Fr.le_nil)))))), true, F101, rfl, hS102, hE103, ho107, fo108, ho110, fo111, h105, h109, hr⟩
                    · replace hr := ite_neg hr hg610
                      refine WL.move .nil rfl rfl rfl rfl ?_
                      refine WL.len .nil rfl rfl rfl Try.underlying24 rfl ?_
                      refine WL.bin .nil rfl rfl rfl rfl rfl rfl ?_
                      refine WL.pick .nil rfl rfl rfl rfl rfl ?_
                      refine WL.move .nil rfl rfl rfl rfl ?_
                      refine WL.guardD rfl rfl rfl (fun hg611 => ?_) (fun hg611 => ?_)
                      · replace hr := ite_pos hr hg611
                        refine WL.skip .nil rfl rfl ?_
                        refine WL.skip .nil rfl rfl ?_
                        refine WL.skip .nil rfl rfl ?_
                        refine WL.skip .nil rfl rfl ?_
                        refine WL.skip .nil rfl rfl ?_
                        refine WL.pick .nil rfl rfl rfl rfl rfl ?_
                        with_reducible refine WL.nil ?_
                        with_reducible refine Ex.thn_norm ?_
                        exact ⟨[(2, .pointer (some ⟨n0, 0, none⟩)), (4, .pointer (some ⟨(n0 + 1), 0, none⟩)), (6, .int .i64 x71.1), (7, .int .i64 x71.2.1), (8, .slice a77 x71.2.2.1.length cap78), (123, .bool true)], (Fr.le_cons rfl (Fr.le_cons rfl (Fr.le_cons rfl (Fr.le_cons rfl (Fr.le_cons rfl (Fr.le_cons rfl Fr.le_nil)))))), true, F101, rfl, hS102, hE103, ho107, fo108, ho110, fo111, h105, h109, hr⟩
                      · replace hr := ite_neg hr hg611
                        refine WL.move .nil rfl rfl rfl rfl ?_
                        refine WL.fieldAddr .nil rfl rfl rfl Try.underlying40 rfl info3 rfl rfl ?_
                        refine WL.load1 .nil rfl rfl rfl Try.underlying3 rfl rfl ho110 rfl ?_
                        obtain ⟨hc612, hr⟩ := chk_some hr
                        refine WL.subI .nil rfl rfl rfl rfl rfl hc612.1 hc612.2 ?_
                        refine WL.bin .nil rfl rfl rfl rfl rfl rfl ?_
                        refine WL.pick .nil rfl rfl rfl rfl rfl ?_
                        with_reducible refine WL.nil ?_
                        with_reducible refine Ex.thn_norm ?_
                        exact ⟨[(2, .pointer (some ⟨n0, 0, none⟩)), (4, .pointer (some ⟨(n0 + 1), 0, none⟩)), (6, .int .i64 x71.1), (7, .int .i64 x71.2.1), (8, .slice a77 x71.2.2.1.length cap78), (123, .bool (decide ((100 : Int) < (x71.2.1 - x1.Base))))], (Fr.le_cons rfl (Fr.le_cons rfl (Fr.le_cons rfl (Fr.le_cons rfl (Fr.le_cons rfl (Fr.le_cons rfl Fr.le_nil)))))), (decide ((100 : Int) < (x71.2.1 - x1.Base))), F101, rfl, hS102, hE103, ho107, fo108, ho110, fo111, h105, h109, hr⟩
                · intro _ n460 H461 hI
                  obtain ⟨x466, F462, rfl, hS463, hE464, ho467, fo468, ho470, fo471, h465, h469, hr⟩ := hI
                  have lt472 := hS463.lt ho467
                  have lt473 := hS463.lt ho470
                  have hlen460 := hE464.le
                  have hlon460 := hS463.lo
                  unfold f_spec_l03Take_J3 at hr
                  refine W.cond rfl (fun hc480 => ?_) (fun hc480 => ?_)
                  · replace hr := iteB_pos hr hc480
                    with_reducible refine W.seq ?_
                    with_reducible refine W.region ?_
                    refine WL.loadN .nil (l' := [.int .i64 x1.Term, .int .i64 x1.Vote, .int .i64 x1.Base, .int .i64 x1.BaseTerm, .slice a2 x1.Log.length cap3, .int .i64 x1.Good]) rfl rfl rfl Try.underlying40 rfl info40 rfl ho470 rfl rfl ?_
                    refine GL.store hS463 .nil (vc := [.int .i64 x1.Term, .int .i64 x1.Vote, .int .i64 x1.Base, .int .i64 x1.BaseTerm, .slice a2 x1.Log.length cap3, .int .i64 x1.Good]) (c' := [.int .i64 x1.Term, .int .i64 x1.Vote, .int .i64 x1.Base, .int .i64 x1.BaseTerm, .slice a2 x1.Log.length cap3, .int .i64 x1.Good]) rfl rfl rfl info40 rfl rfl rfl rfl ho467 fo468 (Nat.le_of_ble_eq_true rfl) (by omega) (by repeat' (first | exact List.forall_mem_nil _ | refine List.forall_mem_cons.2 ⟨?_, ?_⟩ | rfl)) rfl (fun H481 hS482 ho483 hk484 => ?_)
                    have ho485 := (hk484 _ (by omega)).trans ho470
                    refine WL.assign .nil rfl rfl rfl rfl ?_
                    with_reducible refine WL.nil ?_
                    with_reducible refine Ex.thn_norm ?_
                    with_reducible refine W.ret ?_
                    with_reducible refine Ex.thn_ret ?_
                    with_reducible refine Ex.blk_ret ?_
                    with_reducible refine Ex.thn_ret ?_
                    obtain rfl := Option.some.inj hr
                    exact ⟨.inr rfl, _, (.cons (.cellN (l := [.int .i64 x1.Term, .int .i64 x1.Vote, .int .i64 x1.Base, .int .i64 x1.BaseTerm, .slice a2 x1.Log.length cap3, .int .i64 x1.Good]) rfl Try.underlying40 rfl info40 ho483 rfl rfl) (.cons (.tmp rfl) .nil)), ⟨F462, a2, cap3, (hE464.up (by omega)), hS482, rfl, h469⟩⟩
                  · replace hr := iteB_neg hr hc480
                    with_reducible refine W.skip ?_
                    with_reducible refine Ex.thn_norm ?_
                    with_reducible refine W.region ?_
                    refine GL.lit (cs := []) (xs := ([] : List GRec)) hS463 .nil rfl rfl rfl Try.underlying30 info37 rfl rfl rfl (by decide) (by decide) rfl rfl rfl rfl rfl RA.nil rfl (fun H486 hS487 hO488 hk489 => ?_)
                    have ho490 := (hk489 _ (by have := lt472; omega)).trans ho467
                    have ho491 := (hk489 _ (by have := lt473; omega)).trans ho470
                    have h492 := OW.lower (lo' := n0) hO488 (by omega)
                    have hlon4601 := hS487.lo
                    have ap494 : idOf (.slice (some ⟨n460, 0, none⟩) ([] : List GRec).length 0) ≠ some (n0 + 1) := fun hj => by have := (OW.id_lt hO488 hj).1; have := lt472; omega
                    have ap495 : idOf (.slice (some ⟨n460, 0, none⟩) ([] : List GRec).length 0) ≠ some n0 := fun hj => by have := (OW.id_lt hO488 hj).1; have := lt473; omega
                    refine WL.fieldAddr .nil rfl rfl rfl Try.underlying40 rfl info30 rfl rfl ?_
                    refine WL.load1 .nil rfl rfl rfl Try.underlying30 rfl rfl ho491 rfl ?_
                    refine WL.move .nil rfl rfl rfl rfl ?_
                    refine WL.fieldAddr .nil rfl rfl rfl Try.underlying40 rfl info3 rfl rfl ?_
                    refine WL.load1 .nil rfl rfl rfl Try.underlying3 rfl rfl ho491 rfl ?_
                    obtain ⟨hc496, hr⟩ := chk_some hr
                    refine WL.subI .nil rfl rfl rfl rfl rfl hc496.1 hc496.2 ?_
                    obtain ⟨hc497, hr⟩ := chk_some hr
                    refine WL.subI .nil rfl rfl rfl rfl rfl hc497.1 hc497.2 ?_
                    obtain ⟨xs498, hxs498, hr⟩ := bnd_some hr
                    refine GL.slice .nil rfl rfl rfl Try.underlying30 info37 rfl rfl h469 hS487.fh rfl ⟨_, rfl⟩ hxs498 (fun a499 cap500 hid501 h502 => ?_)
                    obtain ⟨hc503, hr⟩ := chk_some hr
                    have hb513 := fun b hb => (OW.id_lt (i := b) h492 hb).2
                    refine GL.append (α := GRec) hS487 .nil rfl rfl rfl Try.underlying30 Try.underlying30 rfl info37 rfl rfl rfl (by decide) rfl rfl h492 (by omega) (by omega) (SR.src h502 hS487.fh) hc503 (fun a504 cap505 n506 H507 hS508 hn509 hO510 hk511 hid512 => ?_)
                    have ho514 := (hk511 _ (by have := lt472; omega) ap494).trans ho490
                    have ho515 := (hk511 _ (by have := lt473; omega) ap495).trans ho491
                    have ap517 : idOf (.slice a504 (([] : List GRec) ++ xs498).length cap505) ≠ some (n0 + 1) := fun hj => (hid512 _ hj).elim (fun h => by have := lt472; omega) ap494
                    have ap518 : idOf (.slice a504 (([] : List GRec) ++ xs498).length cap505) ≠ some n0 := fun hj => (hid512 _ hj).elim (fun h => by have := lt473; omega) ap495
                    have hlon506 := hS508.lo
                    refine WL.move .nil rfl rfl rfl rfl ?_
                    refine WL.move .nil rfl rfl rfl rfl ?_
                    have hb523 := fun b hb => (OW.id_lt (i := b) hO510 hb).2
                    refine GL.lit (cs := []) (xs := ([] : List UInt8)) hS508 .nil rfl rfl rfl Try.underlying24 info5 rfl rfl rfl (by decide) (by decide) rfl rfl rfl rfl rfl RA.nil rfl (fun H519 hS520 hO521 hk522 => ?_)
                    have ho524 := (hk522 _ (by have := lt472; omega)).trans ho514
                    have ho525 := (hk522 _ (by have := lt473; omega)).trans ho515
                    have h526 := OW.keep (n' := (n506 + 1)) hO510 (by omega) (fun i hi => hk522 i (OW.id_lt hO510 hi).2)
                    have h527 := OW.lower (lo' := n0) hO521 (by omega)
                    have hlon5061 := hS520.lo
                    have ap529 : idOf (.slice (some ⟨n506, 0, none⟩) ([] : List UInt8).length 0) ≠ some (n0 + 1) := fun hj => by have := (OW.id_lt hO521 hj).1; have := lt472; omega
                    have ap530 : idOf (.slice (some ⟨n506, 0, none⟩) ([] : List UInt8).length 0) ≠ some n0 := fun hj => by have := (OW.id_lt hO521 hj).1; have := lt473; omega
                    have ap531 : ∀ b, idOf (.slice (some ⟨n506, 0, none⟩) ([] : List UInt8).length 0) = some b → idOf (.slice a504 (([] : List GRec) ++ xs498).length cap505) ≠ some b := fun b hj hi => by have := (OW.id_lt hO521 hj).1; have := hb523 b hi; omega
                    refine WL.move .nil rfl rfl rfl rfl ?_
                    obtain ⟨hc532, hr⟩ := chk_some hr
                    have hb542 := fun b hb => (OW.id_lt (i := b) h526 hb).2
                    have hb543 := fun b hb => (OW.id_lt (i := b) h527 hb).2
                    refine GL.append (α := UInt8) hS520 .nil rfl rfl rfl Try.underlying24 Try.underlying24 rfl info5 rfl rfl rfl (by decide) rfl rfl h527 (by omega) (by omega) (SR.src h465 hS520.fh) hc532 (fun a533 cap534 n535 H536 hS537 hn538 hO539 hk540 hid541 => ?_)
                    have ho544 := (hk540 _ (by have := lt472; omega) ap529).trans ho524
                    have ho545 := (hk540 _ (by have := lt473; omega) ap530).trans ho525
                    have h546 := OW.keep h526 hn538 (fun i hi => hk540 i (OW.id_lt h526 hi).2 (fun hj => ap531 _ hj hi))
                    have ap548 : idOf (.slice a533 (([] : List UInt8) ++ x71.2.2.1).length cap534) ≠ some (n0 + 1) := fun hj => (hid541 _ hj).elim (fun h => by have := lt472; omega) ap529
                    have ap549 : idOf (.slice a533 (([] : List UInt8) ++ x71.2.2.1).length cap534) ≠ some n0 := fun hj => (hid541 _ hj).elim (fun h => by have := lt473; omega) ap530
                    have ap550 : ∀ b, idOf (.slice a533 (([] : List UInt8) ++ x71.2.2.1).length cap534) = some b → idOf (.slice a504 (([] : List GRec) ++ xs498).length cap505) ≠ some b := fun b hj hi => (hid541 _ hj).elim (fun h => by have := hb542 b hi; omega) (fun h => ap531 _ h hi)
                    have hlon535 := hS537.lo
                    refine WL.buildL .nil (cells := [.int .i64 x71.1, .int .i64 x71.2.1, .slice a533 (([] : List UInt8) ++ x71.2.2.1).length cap534]) rfl rfl rfl Try.underlying37 info37 rfl rfl rfl (by simp only [List.mapM_cons, List.mapM_nil, info3, info3, info24]; rfl) rfl (by first | rfl | ((conv => lhs; simp [splice, fillL, cells_int, cells_bool, cells_string, cells_str, cells_slice, cells_ptr, cells_map, cells_func, cells_nilFunc, cells_nilIface, cells_iface, cells_agg, cells_u8]) <;> rfl)) ?_
                    obtain ⟨F551, hS552, hle553, h554, hf555⟩ := OW.freeze hO539 hS537
                    have fo556 := (hf555 _ ap548).trans fo468
                    have fo557 := (hf555 _ ap549).trans fo471
                    have h558 := OW.keepF h546 hle553 (fun i hi => (hf555 i (fun hj => ap550 i hj hi)).trans (OW.fnone h546 hi))
                    have hE559 : Ext n0 F0 n535 F551 := ⟨Nat.le_trans hE464.le (by omega), hE464.sub.trans hle553, fun i hi => (hf555 i (fun hj => by have := OW.id_lt hO539 hj; omega)).trans (hE464.eq i hi)⟩
                    have hb564 := fun b hb => (OW.id_lt (i := b) h558 hb).2
                    refine GL.lit (cs := [.int .i64 x71.1, .int .i64 x71.2.1, .slice a533 (([] : List UInt8) ++ x71.2.2.1).length cap534]) (xs := ([({ Term := x71.1, Index := x71.2.1, Data := (([] : List UInt8) ++ x71.2.2.1) } : GRec)] : List GRec)) hS552 .nil rfl rfl rfl Try.underlying30 info37 rfl rfl rfl (by decide) (by decide) rfl rfl rfl rfl rfl (RA.cons (cs := [.int .i64 x71.1, .int .i64 x71.2.1, .slice a533 (([] : List UInt8) ++ x71.2.2.1).length cap534]) (a := (({ Term := x71.1, Index := x71.2.1, Data := (([] : List UInt8) ++ x71.2.2.1) } : GRec) : GRec)) (GRec.toR (x := ({ Term := x71.1, Index := x71.2.1, Data := (([] : List UInt8) ++ x71.2.2.1) } : GRec)) h554) RA.nil) rfl (fun H560 hS561 hO562 hk563 => ?_)
                    have ho565 := (hk563 _ (by have := lt472; omega)).trans ho544
                    have ho566 := (hk563 _ (by have := lt473; omega)).trans ho545
                    have h567 := OW.keep (n' := (n535 + 1)) h558 (by omega) (fun i hi => hk563 i (OW.id_lt h558 hi).2)
                    have h568 := OW.lower (lo' := n0) hO562 (by omega)
                    have hlon5351 := hS561.lo
                    have ap570 : idOf (.slice (some ⟨n535, 0, none⟩) ([({ Term := x71.1, Index := x71.2.1, Data := (([] : List UInt8) ++ x71.2.2.1) } : GRec)] : List GRec).length 1) ≠ some (n0 + 1) := fun hj => by have := (OW.id_lt hO562 hj).1; have := lt472; omega
                    have ap571 : idOf (.slice (some ⟨n535, 0, none⟩) ([({ Term := x71.1, Index := x71.2.1, Data := (([] : List UInt8) ++ x71.2.2.1) } : GRec)] : List GRec).length 1) ≠ some n0 := fun hj => by have := (OW.id_lt hO562 hj).1; have := lt473; omega
                    have ap572 : ∀ b, idOf (.slice (some ⟨n535, 0, none⟩) ([({ Term := x71.1, Index := x71.2.1, Data := (([] : List UInt8) ++ x71.2.2.1) } : GRec)] : List GRec).length 1) = some b → idOf (.slice a504 (([] : List GRec) ++ xs498).length cap505) ≠ some b := fun b hj hi => by have := (OW.id_lt hO562 hj).1; have := hb564 b hi; omega
                    obtain ⟨hc573, hr⟩ := chk_some hr
                    have hb583 := fun b hb => (OW.id_lt (i := b) h567 hb).2
                    have hb584 := fun b hb => (OW.id_lt (i := b) h568 hb).2
                    refine GL.append (α := GRec) hS561 .nil rfl rfl rfl Try.underlying30 Try.underlying30 rfl info37 rfl rfl rfl (by decide) rfl rfl h567 (by omega) (by omega) (OW.src h568) hc573 (fun a574 cap575 n576 H577 hS578 hn579 hO580 hk581 hid582 => ?_)
                    have ho585 := (hk581 _ (by have := lt472; omega) ap517).trans ho565
                    have ho586 := (hk581 _ (by have := lt473; omega) ap518).trans ho566
                    have h587 := OW.keep h568 hn579 (fun i hi => hk581 i (OW.id_lt h568 hi).2 (fun hj => (fun b h1 h2 => ap572 b h2 h1) _ hj hi))
                    have ap589 : idOf (.slice a574 ((([] : List GRec) ++ xs498) ++ ([({ Term := x71.1, Index := x71.2.1, Data := (([] : List UInt8) ++ x71.2.2.1) } : GRec)] : List GRec)).length cap575) ≠ some (n0 + 1) := fun hj => (hid582 _ hj).elim (fun h => by have := lt472; omega) ap517
                    have ap590 : idOf (.slice a574 ((([] : List GRec) ++ xs498) ++ ([({ Term := x71.1, Index := x71.2.1, Data := (([] : List UInt8) ++ x71.2.2.1) } : GRec)] : List GRec)).length cap575) ≠ some n0 := fun hj => (hid582 _ hj).elim (fun h => by have := lt473; omega) ap518
                    have ap591 : ∀ b, idOf (.slice a574 ((([] : List GRec) ++ xs498) ++ ([({ Term := x71.1, Index := x71.2.1, Data := (([] : List UInt8) ++ x71.2.2.1) } : GRec)] : List GRec)).length cap575) = some b → idOf (.slice (some ⟨n535, 0, none⟩) ([({ Term := x71.1, Index := x71.2.1, Data := (([] : List UInt8) ++ x71.2.2.1) } : GRec)] : List GRec).length 1) ≠ some b := fun b hj hi => (hid582 _ hj).elim (fun h => by have := hb584 b hi; omega) (fun h => (fun b h1 h2 => ap572 b h2 h1) _ h hi)
                    have hlon576 := hS578.lo
                    refine WL.fieldAddr .nil rfl rfl rfl Try.underlying40 rfl info30 rfl rfl ?_
                    refine GL.store hS578 .nil (vc := [.slice a574 ((([] : List GRec) ++ xs498) ++ ([({ Term := x71.1, Index := x71.2.1, Data := (([] : List UInt8) ++ x71.2.2.1) } : GRec)] : List GRec)).length cap575]) (c' := [.int .i64 x1.Term, .int .i64 x1.Vote, .int .i64 x1.Base, .int .i64 x1.BaseTerm, .slice a574 ((([] : List GRec) ++ xs498) ++ ([({ Term := x71.1, Index := x71.2.1, Data := (([] : List UInt8) ++ x71.2.2.1) } : GRec)] : List GRec)).length cap575, .int .i64 x1.Good]) rfl rfl rfl info30 rfl rfl rfl rfl ho586 fo557 (Nat.le_of_ble_eq_true rfl) (by omega) (by repeat' (first | exact List.forall_mem_nil _ | refine List.forall_mem_cons.2 ⟨?_, ?_⟩ | rfl)) rfl (fun H592 hS593 ho594 hk595 => ?_)
                    have ho596 := (hk595 _ (by omega)).trans ho585
                    have h597 := OW.keep h587 (Nat.le_refl _) (fun i hi => hk595 i (fun hj => ap571 (hj ▸ hi)))
                    have h598 := OW.keep hO580 (Nat.le_refl _) (fun i hi => hk595 i (fun hj => ap590 (hj ▸ hi)))
                    with_reducible refine WL.nil ?_
                    with_reducible refine Ex.blk_norm ?_
                    with_reducible refine Ex.thn_norm ?_
                    obtain ⟨F599, hS600, hle601, h602, hf603⟩ := OW.freeze h598 hS593
                    have fo604 := (hf603 _ ap589).trans fo556
                    have fo605 := (hf603 _ ap590).trans fo557
                    have h606 := OW.keepF h597 hle601 (fun i hi => (hf603 i (fun hj => ap591 i hj hi)).trans (OW.fnone h597 hi))
                    have hE607 : Ext n0 F0 n576 F599 := ⟨Nat.le_trans hE559.le (by omega), hE559.sub.trans hle601, fun i hi => (hf603 i (fun hj => by have := OW.id_lt h598 hj; omega)).trans (hE559.eq i hi)⟩
                    exact ⟨[(2, .pointer (some ⟨n0, 0, none⟩)), (4, .pointer (some ⟨(n0 + 1), 0, none⟩))], (Fr.le_cons rfl (Fr.le_cons rfl Fr.le_nil)), x1.Term, x1.Vote, x1.Base, x1.BaseTerm, a574, cap575, ((([] : List GRec) ++ xs498) ++ ([({ Term := x71.1, Index := x71.2.1, Data := (([] : List UInt8) ++ x71.2.2.1) } : GRec)] : List GRec)), F599, rfl, hS600, hE607, ho596, fo604, ho594, fo605, h602, hr⟩
              · replace hr := ite_neg hr hc454
                with_reducible refine W.seq ?_
                with_reducible refine W.seq ?_
                refine W.cut (fun fr n H => ∃ (x630 : Bool) (F : Heap), fr = [(2, .pointer (some ⟨n0, 0, none⟩)), (4, .pointer (some ⟨(n0 + 1), 0, none⟩)), (6, .int .i64 x71.1), (7, .int .i64 x71.2.1), (73, .bool x630)] ∧ St n0 n H F ∧ Ext n0 F0 n F ∧ H (n0 + 1) = some (.row 1 [.int .i64 0, .int .i64 0, .int .i64 0, .int .i64 0, .slice none 0 0, .int .i64 0]) ∧ F (n0 + 1) = none ∧ H n0 = some (.row 1 [.int .i64 x1.Term, .int .i64 x1.Vote, .int .i64 x1.Base, .int .i64 x1.BaseTerm, .slice a2 x1.Log.length cap3, .int .i64 x1.Good]) ∧ F n0 = none ∧ SR F (.slice a2 x1.Log.length cap3) x1.Log ∧ f_spec_l03Take_J4 x1 x71 x630 = some res) ?_ ?_
                · with_reducible refine W.region ?_
                  refine WL.move .nil rfl rfl rfl rfl ?_
                  refine WL.fieldAddr .nil rfl rfl rfl Try.underlying40 rfl info3 rfl rfl ?_
                  refine WL.load1 .nil rfl rfl rfl Try.underlying3 rfl rfl ho110 rfl ?_
                  refine WL.bin .nil rfl rfl rfl rfl rfl rfl ?_
                  refine WL.move .nil rfl rfl rfl rfl ?_
                  refine WL.guardD rfl rfl rfl (fun hg708 => ?_) (fun hg708 => ?_)
                  · replace hr := ite_pos hr hg708
                    refine WL.skip .nil rfl rfl ?_
                    refine WL.skip .nil rfl rfl ?_
                    refine WL.skip .nil rfl rfl ?_
                    refine WL.pick .nil rfl rfl rfl rfl rfl ?_
                    refine WL.move .nil rfl rfl rfl rfl ?_
                    refine WL.skip .nil rfl rfl ?_
                    refine WL.skip .nil rfl rfl ?_
                    refine WL.skip .nil rfl rfl ?_
                    refine WL.skip .nil rfl rfl ?_
                    refine WL.skip .nil rfl rfl ?_
                    refine WL.pick .nil rfl rfl rfl rfl rfl ?_
                    with_reducible refine WL.nil ?_
                    with_reducible refine Ex.thn_norm ?_
                    exact ⟨[(2, .pointer (some ⟨n0, 0, none⟩)), (4, .pointer (some ⟨(n0 + 1), 0, none⟩)), (6, .int .i64 x71.1), (7, .int .i64 x71.2.1), (73, .bool true)], (Fr.le_cons rfl (Fr.le_cons rfl (Fr.le_cons rfl (Fr.le_cons rfl (Fr.le_cons rfl Fr.le_nil))))), true, F101, rfl, hS102, hE103, ho107, fo108, ho110, fo111, h109, hr⟩
                  · replace hr := ite_neg hr hg708
                    refine WL.move .nil rfl rfl rfl rfl ?_
                    refine WL.move .nil rfl rfl rfl rfl ?_
                    refine WL.bin .nil rfl rfl rfl rfl rfl rfl ?_
                    refine WL.pick .nil rfl rfl rfl rfl rfl ?_
                    refine WL.move .nil rfl rfl rfl rfl ?_
                    refine WL.guardD rfl rfl rfl (fun hg709 => ?_) (fun hg709 => ?_)
                    · replace hr := ite_pos hr hg709
                      refine WL.skip .nil rfl rfl ?_
                      refine WL.skip .nil rfl rfl ?_
                      refine WL.skip .nil rfl rfl ?_
                      refine WL.skip .nil rfl rfl ?_
                      refine WL.skip .nil rfl rfl ?_
                      refine WL.pick .nil rfl rfl rfl rfl rfl ?_
                      with_reducible refine WL.nil ?_
                      with_reducible refine Ex.thn_norm ?_
                      exact ⟨[(2, .pointer (some ⟨n0, 0, none⟩)), (4, .pointer (some ⟨(n0 + 1), 0, none⟩)), (6, .int .i64 x71.1), (7, .int .i64 x71.2.1), (73, .bool true)], (Fr.le_cons rfl (Fr.le_cons rfl (Fr.le_cons rfl (Fr.le_cons rfl (Fr.le_cons rfl Fr.le_nil))))), true, F101, rfl, hS102, hE103, ho107, fo108, ho110, fo111, h109, hr⟩
                    · replace hr := ite_neg hr hg709
                      refine WL.loadN .nil (l' := [.int .i64 x1.Term, .int .i64 x1.Vote, .int .i64 x1.Base, .int .i64 x1.BaseTerm, .slice a2 x1.Log.length cap3, .int .i64 x1.Good]) rfl rfl rfl Try.underlying40 rfl info40 rfl ho110 rfl rfl ?_
                      refine WL.move .nil rfl rfl rfl rfl ?_
                      obtain ⟨x710, hx710, hr⟩ := bnd_some hr
                      refine GL.callP g.good .nil rfl rfl rfl rfl rfl rfl Try.func89 rfl rfl hS102.lo (f_spec_l03TermAt_k  g hS102 h109 hx710) (fun v n711 H712 hn713 hk714 hp715 => ?_)
                      obtain ⟨hS716, rfl⟩ := hp715
                      have ho717 := (hk714 _ (by have := lt112; omega)).trans ho107
                      have ho718 := (hk714 _ (by have := lt113; omega)).trans ho110
                      have hS719 : St n0 n711 H712 F101 := ⟨by have := hS102.lo; omega, hS716.hb, hS716.fh⟩
                      have hlon711 := hS719.lo
                      refine WL.move .nil rfl rfl rfl rfl ?_
                      refine WL.bin .nil rfl rfl rfl rfl rfl rfl ?_
                      refine WL.pick .nil rfl rfl rfl rfl rfl ?_
                      with_reducible refine WL.nil ?_
                      with_reducible refine Ex.thn_norm ?_
                      exact ⟨[(2, .pointer (some ⟨n0, 0, none⟩)), (4, .pointer (some ⟨(n0 + 1), 0, none⟩)), (6, .int .i64 x71.1), (7, .int .i64 x71.2.1), (73, .bool (!decide (x710 = x71.2.1)))], (Fr.le_cons rfl (Fr.le_cons rfl (Fr.le_cons rfl (Fr.le_cons rfl (Fr.le_cons rfl Fr.le_nil))))), (!decide (x710 = x71.2.1)), F101, rfl, hS719, (hE103.up (by omega)), ho717, fo108, ho718, fo111, h109, hr⟩
                · intro _ n625 H626 hI
                  obtain ⟨x630, F627, rfl, hS628, hE629, ho631, fo632, ho634, fo635, h633, hr⟩ := hI
                  have lt636 := hS628.lt ho631
                  have lt637 := hS628.lt ho634
                  have hlen625 := hE629.le
                  have hlon625 := hS628.lo
                  unfold f_spec_l03Take_J4 at hr
                  refine W.cond rfl (fun hc644 => ?_) (fun hc644 => ?_)
                  · replace hr := iteB_pos hr hc644
                    with_reducible refine W.seq ?_
                    with_reducible refine W.region ?_
                    refine WL.loadN .nil (l' := [.int .i64 x1.Term, .int .i64 x1.Vote, .int .i64 x1.Base, .int .i64 x1.BaseTerm, .slice a2 x1.Log.length cap3, .int .i64 x1.Good]) rfl rfl rfl Try.underlying40 rfl info40 rfl ho634 rfl rfl ?_
                    refine GL.store hS628 .nil (vc := [.int .i64 x1.Term, .int .i64 x1.Vote, .int .i64 x1.Base, .int .i64 x1.BaseTerm, .slice a2 x1.Log.length cap3, .int .i64 x1.Good]) (c' := [.int .i64 x1.Term, .int .i64 x1.Vote, .int .i64 x1.Base, .int .i64 x1.BaseTerm, .slice a2 x1.Log.length cap3, .int .i64 x1.Good]) rfl rfl rfl info40 rfl rfl rfl rfl ho631 fo632 (Nat.le_of_ble_eq_true rfl) (by omega) (by repeat' (first | exact List.forall_mem_nil _ | refine List.forall_mem_cons.2 ⟨?_, ?_⟩ | rfl)) rfl (fun H645 hS646 ho647 hk648 => ?_)
                    have ho649 := (hk648 _ (by omega)).trans ho634
                    refine WL.assign .nil rfl rfl rfl rfl ?_
                    with_reducible refine WL.nil ?_
                    with_reducible refine Ex.thn_norm ?_
                    with_reducible refine W.ret ?_
                    with_reducible refine Ex.thn_ret ?_
                    with_reducible refine Ex.blk_ret ?_
                    with_reducible refine Ex.thn_ret ?_
                    obtain rfl := Option.some.inj hr
                    exact ⟨.inr rfl, _, (.cons (.cellN (l := [.int .i64 x1.Term, .int .i64 x1.Vote, .int .i64 x1.Base, .int .i64 x1.BaseTerm, .slice a2 x1.Log.length cap3, .int .i64 x1.Good]) rfl Try.underlying40 rfl info40 ho647 rfl rfl) (.cons (.tmp rfl) .nil)), ⟨F627, a2, cap3, (hE629.up (by omega)), hS646, rfl, h633⟩⟩
                  · replace hr := iteB_neg hr hc644
                    with_reducible refine W.skip ?_
                    with_reducible refine Ex.thn_norm ?_
                    with_reducible refine W.seq ?_
                    with_reducible refine W.region ?_
                    refine GL.lit (cs := []) (xs := ([] : List GRec)) hS628 .nil rfl rfl rfl Try.underlying30 info37 rfl rfl rfl (by decide) (by decide) rfl rfl rfl rfl rfl RA.nil rfl (fun H650 hS651 hO652 hk653 => ?_)
                    have ho654 := (hk653 _ (by have := lt636; omega)).trans ho631
                    have ho655 := (hk653 _ (by have := lt637; omega)).trans ho634
                    have h656 := OW.lower (lo' := n0) hO652 (by omega)
                    have hlon6251 := hS651.lo
                    have ap658 : idOf (.slice (some ⟨n625, 0, none⟩) ([] : List GRec).length 0) ≠ some (n0 + 1) := fun hj => by have := (OW.id_lt hO652 hj).1; have := lt636; omega
                    have ap659 : idOf (.slice (some ⟨n625, 0, none⟩) ([] : List GRec).length 0) ≠ some n0 := fun hj => by have := (OW.id_lt hO652 hj).1; have := lt637; omega
                    refine WL.fieldAddr .nil rfl rfl rfl Try.underlying40 rfl info30 rfl rfl ?_
                    refine WL.load1 .nil rfl rfl rfl Try.underlying30 rfl rfl ho655 rfl ?_
                    refine WL.move .nil rfl rfl rfl rfl ?_
                    refine WL.fieldAddr .nil rfl rfl rfl Try.underlying40 rfl info3 rfl rfl ?_
                    refine WL.load1 .nil rfl rfl rfl Try.underlying3 rfl rfl ho655 rfl ?_
                    obtain ⟨hc660, hr⟩ := chk_some hr
                    refine WL.subI .nil rfl rfl rfl rfl rfl hc660.1 hc660.2 ?_
                    obtain ⟨xs661, hxs661, hr⟩ := bnd_some hr
                    refine GL.slice .nil rfl rfl rfl Try.underlying30 info37 rfl rfl h633 hS651.fh ⟨_, rfl⟩ rfl hxs661 (fun a662 cap663 hid664 h665 => ?_)
                    obtain ⟨hc666, hr⟩ := chk_some hr
                    have hb676 := fun b hb => (OW.id_lt (i := b) h656 hb).2
                    refine GL.append (α := GRec) hS651 .nil rfl rfl rfl Try.underlying30 Try.underlying30 rfl info37 rfl rfl rfl (by decide) rfl rfl h656 (by omega) (by omega) (SR.src h665 hS651.fh) hc666 (fun a667 cap668 n669 H670 hS671 hn672 hO673 hk674 hid675 => ?_)
                    have ho677 := (hk674 _ (by have := lt636; omega) ap658).trans ho654
                    have ho678 := (hk674 _ (by have := lt637; omega) ap659).trans ho655
                    have ap680 : idOf (.slice a667 (([] : List GRec) ++ xs661).length cap668) ≠ some (n0 + 1) := fun hj => (hid675 _ hj).elim (fun h => by have := lt636; omega) ap658
                    have ap681 : idOf (.slice a667 (([] : List GRec) ++ xs661).length cap668) ≠ some n0 := fun hj => (hid675 _ hj).elim (fun h => by have := lt637; omega) ap659
                    have hlon669 := hS671.lo
                    refine WL.fieldAddr .nil rfl rfl rfl Try.underlying40 rfl info30 rfl rfl ?_
                    refine GL.store hS671 .nil (vc := [.slice a667 (([] : List GRec) ++ xs661).length cap668]) (c' := [.int .i64 x1.Term, .int .i64 x1.Vote, .int .i64 x1.Base, .int .i64 x1.BaseTerm, .slice a667 (([] : List GRec) ++ xs661).length cap668, .int .i64 x1.Good]) rfl rfl rfl info30 rfl rfl rfl rfl ho678 fo635 (Nat.le_of_ble_eq_true rfl) (by omega) (by repeat' (first | exact List.forall_mem_nil _ | refine List.forall_mem_cons.2 ⟨?_, ?_⟩ | rfl)) rfl (fun H682 hS683 ho684 hk685 => ?_)
                    have ho686 := (hk685 _ (by omega)).trans ho677
                    have h687 := OW.keep hO673 (Nat.le_refl _) (fun i hi => hk685 i (fun hj => ap681 (hj ▸ hi)))
                    with_reducible refine WL.nil ?_
                    with_reducible refine Ex.thn_norm ?_
                    with_reducible refine W.seq ?_
                    with_reducible refine W.region ?_
                    refine WL.move .nil rfl rfl rfl rfl ?_
                    refine WL.fieldAddr .nil rfl rfl rfl Try.underlying40 rfl info3 rfl rfl ?_
                    refine GL.store hS683 .nil (vc := [.int .i64 x71.1]) (c' := [.int .i64 x1.Term, .int .i64 x1.Vote, .int .i64 x71.1, .int .i64 x1.BaseTerm, .slice a667 (([] : List GRec) ++ xs661).length cap668, .int .i64 x1.Good]) rfl rfl rfl info3 rfl rfl rfl rfl ho684 fo635 (Nat.le_of_ble_eq_true rfl) (by omega) (by repeat' (first | exact List.forall_mem_nil _ | refine List.forall_mem_cons.2 ⟨?_, ?_⟩ | rfl)) rfl (fun H688 hS689 ho690 hk691 => ?_)
                    have ho692 := (hk691 _ (by omega)).trans ho686
                    have h693 := OW.keep h687 (Nat.le_refl _) (fun i hi => hk691 i (fun hj => ap681 (hj ▸ hi)))
                    with_reducible refine WL.nil ?_
                    with_reducible refine Ex.thn_norm ?_
                    with_reducible refine W.region ?_
                    refine WL.move .nil rfl rfl rfl rfl ?_
                    refine WL.fieldAddr .nil rfl rfl rfl Try.underlying40 rfl info3 rfl rfl ?_
                    refine GL.store hS689 .nil (vc := [.int .i64 x71.2.1]) (c' := [.int .i64 x1.Term, .int .i64 x1.Vote, .int .i64 x71.1, .int .i64 x71.2.1, .slice a667 (([] : List GRec) ++ xs661).length cap668, .int .i64 x1.Good]) rfl rfl rfl info3 rfl rfl rfl rfl ho690 fo635 (Nat.le_of_ble_eq_true rfl) (by omega) (by repeat' (first | exact List.forall_mem_nil _ | refine List.forall_mem_cons.2 ⟨?_, ?_⟩ | rfl)) rfl (fun H694 hS695 ho696 hk697 => ?_)
                    have ho698 := (hk697 _ (by omega)).trans ho692
                    have h699 := OW.keep h693 (Nat.le_refl _) (fun i hi => hk697 i (fun hj => ap681 (hj ▸ hi)))
                    with_reducible refine WL.nil ?_
                    with_reducible refine Ex.blk_norm ?_
                    with_reducible refine Ex.thn_norm ?_
                    obtain ⟨F700, hS701, hle702, h703, hf704⟩ := OW.freeze h699 hS695
                    have fo705 := (hf704 _ ap680).trans fo632
                    have fo706 := (hf704 _ ap681).trans fo635
                    have hE707 : Ext n0 F0 n669 F700 := ⟨Nat.le_trans hE629.le (by omega), hE629.sub.trans hle702, fun i hi => (hf704 i (fun hj => by have := OW.id_lt h699 hj; omega)).trans (hE629.eq i hi)⟩
                    exact ⟨[(2, .pointer (some ⟨n0, 0, none⟩)), (4, .pointer (some ⟨(n0 + 1), 0, none⟩))], (Fr.le_cons rfl (Fr.le_cons rfl Fr.le_nil)), x1.Term, x1.Vote, x71.1, x71.2.1, a667, cap668, (([] : List GRec) ++ xs661), F700, rfl, hS701, hE707, ho698, fo705, ho696, fo706, h703, hr⟩
          · intro _ n407 H408 hI
            obtain ⟨x414, x415, x416, x417, a418, cap419, xs420, F409, rfl, hS410, hE411, ho412, fo413, ho422, fo423, h421, hr⟩ := hI
            have lt424 := hS410.lt ho412
            have lt425 := hS410.lt ho422
            have hlen407 := hE411.le
            have hlon407 := hS410.lo
            unfold f_spec_l03Take_J2 at hr
            with_reducible refine W.seq ?_
            with_reducible refine W.region ?_
            refine WL.loadN .nil (l' := [.int .i64 x414, .int .i64 x415, .int .i64 x416, .int .i64 x417, .slice a418 xs420.length cap419, .int .i64 x1.Good]) rfl rfl rfl Try.underlying40 rfl info40 rfl ho422 rfl rfl ?_
            refine GL.store hS410 .nil (vc := [.int .i64 x414, .int .i64 x415, .int .i64 x416, .int .i64 x417, .slice a418 xs420.length cap419, .int .i64 x1.Good]) (c' := [.int .i64 x414, .int .i64 x415, .int .i64 x416, .int .i64 x417, .slice a418 xs420.length cap419, .int .i64 x1.Good]) rfl rfl rfl info40 rfl rfl rfl rfl ho412 fo413 (Nat.le_of_ble_eq_true rfl) (by omega) (by repeat' (first | exact List.forall_mem_nil _ | refine List.forall_mem_cons.2 ⟨?_, ?_⟩ | rfl)) rfl (fun H426 hS427 ho428 hk429 => ?_)
            have ho430 := (hk429 _ (by omega)).trans ho422
            refine WL.assign .nil rfl rfl rfl rfl ?_
            with_reducible refine WL.nil ?_
            with_reducible refine Ex.thn_norm ?_
            with_reducible refine W.ret ?_
            obtain rfl := Option.some.inj hr
            exact ⟨.inr rfl, _, (.cons (.cellN (l := [.int .i64 x414, .int .i64 x415, .int .i64 x416, .int .i64 x417, .slice a418 xs420.length cap419, .int .i64 x1.Good]) rfl Try.underlying40 rfl info40 ho428 rfl rfl) (.cons (.tmp rfl) .nil)), ⟨F409, a418, cap419, (hE411.up (by omega)), hS427, rfl, h421⟩⟩
theorem f_spec_l03Recover_k {Δ : Prims} (g : Env Try.prog Δ) {lo n0 : Nat} {H0 F0 : Heap} (hS : St lo n0 H0 F0) {a2 : Option Addr} {cap3 : Nat} {xs1 : (List UInt8)} (h4 : SR F0 (.slice a2 xs1.length cap3) xs1) {res : (GWal)} (hr : f_spec_l03Recover xs1 = some res) :
    C Try.prog Δ n0 47 [.slice a2 xs1.length cap3] n0 H0 (fun v n H => ∃ (F : Heap) (ra1 : Option Addr) (rcap2 : Nat), Ext n0 F0 n F ∧ St n0 n H F ∧ v = .agg [.int .i64 res.Term, .int .i64 res.Vote, .int .i64 res.Base, .int .i64 res.BaseTerm, .slice ra1 res.Log.length rcap2, .int .i64 res.Good].toArray ∧ SR F (.slice ra1 res.Log.length rcap2) res.Log) := by
  refine C.body Try.func47 rfl rfl ?_
  unfold f_spec_l03Recover at hr
  have hS0 : St n0 n0 H0 F0 := hS.low (Nat.le_refl _)
  have hE0 := Ext.refl n0 F0
  have hlo0 := hS0.lo
  with_reducible refine W.seq ?_
  with_reducible refine W.region ?_
  refine GL.alloc hS0 .nil (zc := [.int .i64 0, .int .i64 0, .int .i64 0, .int .i64 0, .slice none 0 0, .int .i64 0]) rfl rfl rfl info40 rfl rfl rfl (fun H5 hS6 ho7 hk8 => ?_)
  have fo9 := hS0.fnone (Nat.le_refl _)
  have hlon01 := hS6.lo
  have lt10 : n0 < (n0 + 1) := by omega
  with_reducible refine WL.nil ?_
  with_reducible refine Ex.thn_norm ?_
  with_reducible refine W.seq ?_
  with_reducible refine W.region ?_
  refine WL.buildL .nil (cells := [.int .i64 0, .int .i64 0, .int .i64 0, .int .i64 0, .slice none 0 0, .int .i64 0]) rfl rfl rfl Try.underlying40 info40 rfl rfl rfl (by simp only [List.mapM_cons, List.mapM_nil, info3, info3, info3, info3, info30, info3]; rfl) rfl (by first | rfl | ((conv => lhs; simp [splice, fillL, cells_int, cells_bool, cells_string, cells_str, cells_slice, cells_ptr, cells_map, cells_func, cells_nilFunc, cells_nilIface, cells_iface, cells_agg, cells_u8]) <;> rfl)) ?_
  refine GL.alloc hS6 .nil (zc := [.int .i64 0, .int .i64 0, .int .i64 0, .int .i64 0, .slice none 0 0, .int .i64 0]) rfl rfl rfl info40 rfl rfl rfl (fun H11 hS12 ho13 hk14 => ?_)
  have fo15 := hS6.fnone (Nat.le_refl _)
  have ho17 := (hk14 _ (by have := lt10; omega)).trans ho7
  have hlon011 := hS12.lo
  have lt16 : (n0 + 1) < ((n0 + 1) + 1) := by omega
  refine GL.store hS12 .nil (vc := [.int .i64 0, .int .i64 0, .int .i64 0, .int .i64 0, .slice none 0 0, .int .i64 0]) (c' := [.int .i64 0, .int .i64 0, .int .i64 0, .int .i64 0, .slice none 0 0, .int .i64 0]) rfl rfl rfl info40 rfl rfl rfl rfl ho13 fo15 (Nat.le_of_ble_eq_true rfl) (by omega) (by repeat' (first | exact List.forall_mem_nil _ | refine List.forall_mem_cons.2 ⟨?_, ?_⟩ | rfl)) rfl (fun H18 hS19 ho20 hk21 => ?_)
  have ho22 := (hk21 _ (by omega)).trans ho17
  with_reducible refine WL.nil ?_
  with_reducible refine Ex.thn_norm ?_
  with_reducible refine W.seq ?_
  with_reducible refine W.region ?_
  refine WL.assign .nil rfl rfl rfl rfl ?_
  with_reducible refine WL.nil ?_
  with_reducible refine Ex.thn_norm ?_
  with_reducible refine W.seq ?_
  refine W.cut (fun fr n H => ∃ (x291 : Int) (x292 : Int) (x293 : Int) (x294 : Int) (x295 : Int) (a296 : Option Addr) (cap297 : Nat) (xs298 : (List GRec)) (x300 : Int) (F : Heap), fr = [(2, .pointer (some ⟨n0, 0, none⟩)), (3, .pointer (some ⟨(n0 + 1), 0, none⟩)), (4, .int .i64 x291)] ∧ St n0 n H F ∧ Ext n0 F0 n F ∧ H (n0 + 1) = some (.row 1 [.int .i64 x292, .int .i64 x293, .int .i64 x294, .int .i64 x295, .slice a296 xs298.length cap297, .int .i64 x300]) ∧ F (n0 + 1) = none ∧ H n0 = some (.row 1 [.int .i64 0, .int .i64 0, .int .i64 0, .int .i64 0, .slice none 0 0, .int .i64 0]) ∧ F n0 = none ∧ SR F (.slice a296 xs298.length cap297) xs298 ∧ f_spec_l03Recover_J0 x291 x292 x293 x294 x295 xs298 x300 = some res) ?_ ?_
  · with_reducible refine W.block ?_
    refine W.loopF (fun k1 fr n H => ∃ (x495 : Int) (x496 : Int) (x497 : Int) (x498 : Int) (x499 : Int) (a500 : Option Addr) (cap501 : Nat) (xs502 : (List GRec)) (x504 : Int) (F : Heap), fr = [(0, .slice a2 xs1.length cap3), (2, .pointer (some ⟨n0, 0, none⟩)), (3, .pointer (some ⟨(n0 + 1), 0, none⟩)), (4, .int .i64 x495)] ∧ St n0 n H F ∧ Ext n0 F0 n F ∧ H (n0 + 1) = some (.row 1 [.int .i64 x496, .int .i64 x497, .int .i64 x498, .int .i64 x499, .slice a500 xs502.length cap501, .int .i64 x504]) ∧ F (n0 + 1) = none ∧ H n0 = some (.row 1 [.int .i64 0, .int .i64 0, .int .i64 0, .int .i64 0, .slice none 0 0, .int .i64 0]) ∧ F n0 = none ∧ SR F (.slice a2 xs1.length cap3) xs1 ∧ SR F (.slice a500 xs502.length cap501) xs502 ∧ f_spec_l03Recover_L1 xs1 k1 x495 x496 x497 x498 x499 xs502 x504 = some res) BIG (fr0 := [(0, .slice a2 xs1.length cap3), (2, .pointer (some ⟨n0, 0, none⟩)), (3, .pointer (some ⟨(n0 + 1), 0, none⟩)), (4, .int .i64 0)]) (Fr.le_cons rfl (Fr.le_cons rfl (Fr.le_cons rfl (Fr.le_cons rfl Fr.le_nil)))) ?_ ?_ ?_
    · exact ⟨0, 0, 0, 0, 0, none, 0, [], 0, F0, rfl, hS19, (hE0.up (by omega)), ho20, fo15, ho22, fo9, h4, SR.nil, hr⟩
    · intro fr n H hI
      obtain ⟨x495, x496, x497, x498, x499, a500, cap501, xs502, x504, F491, hfr, hS492, hE493, ho505, fo506, ho507, fo508, h494, h503, hr⟩ := hI
      rw [f_spec_l03Recover_L1] at hr
      cases hr
    · intro k1 _ n489 H490 hI
      obtain ⟨x495, x496, x497, x498, x499, a500, cap501, xs502, x504, F491, rfl, hS492, hE493, ho505, fo506, ho507, fo508, h494, h503, hr⟩ := hI
      have lt509 := hS492.lt ho505
      have lt510 := hS492.lt ho507
      have hlen489 := hE493.le
      have hlon489 := hS492.lo
      rw [f_spec_l03Recover_L1] at hr
      with_reducible refine W.seq ?_
      with_reducible refine W.seq ?_
      with_reducible refine W.region ?_
      refine WL.move .nil rfl rfl rfl rfl ?_
      refine WL.move .nil rfl rfl rfl rfl ?_
      refine WL.len .nil rfl rfl rfl Try.underlying24 rfl ?_
      refine WL.bin .nil rfl rfl rfl rfl rfl rfl ?_
      with_reducible refine WL.nil ?_
      with_reducible refine Ex.thn_norm ?_
      refine W.condD rfl (fun hc512 => ?_) (fun hc512 => ?_)
      · replace hr := ite_pos hr hc512
        with_reducible refine W.skip ?_
        with_reducible refine Ex.thn_norm ?_
        with_reducible refine W.block ?_
        with_reducible refine W.seq ?_
        with_reducible refine W.region ?_
        refine WL.move .nil rfl rfl rfl rfl ?_
        refine WL.move .nil rfl rfl rfl rfl ?_
        obtain ⟨x513, hx513, hr⟩ := bnd_some hr
        refine GL.callP g.good .nil rfl rfl rfl rfl rfl rfl Try.func84 rfl rfl hS492.lo (f_spec_l01Next_k  g hS492 h494 hx513) (fun v n514 H515 hn516 hk517 hp518 => ?_)
        obtain ⟨a519, cap520, hS522, rfl, h521⟩ := hp518
        have ho523 := (hk517 _ (by have := lt509; omega)).trans ho505
        have ho524 := (hk517 _ (by have := lt510; omega)).trans ho507
        have hS525 : St n0 n514 H515 F491 := ⟨by have := hS492.lo; omega, hS522.hb, hS522.fh⟩
        have hlon514 := hS525.lo
        have h526 := OW.lower (lo' := n0) h521 (by omega)
        have ap528 : idOf (.slice a519 x513.1.length cap520) ≠ some (n0 + 1) := fun hj => by have := (OW.id_lt h521 hj).1; have := lt509; omega
        have ap529 : idOf (.slice a519 x513.1.length cap520) ≠ some n0 := fun hj => by have := (OW.id_lt h521 hj).1; have := lt510; omega
        refine WL.move .nil rfl rfl rfl rfl ?_
        refine WL.extract .nil rfl rfl rfl rfl rfl ?_
        refine WL.extract .nil rfl rfl rfl rfl rfl ?_
        refine WL.extract .nil rfl rfl rfl rfl rfl ?_
        refine WL.assign .nil rfl rfl rfl rfl ?_
        refine WL.assign .nil rfl rfl rfl rfl ?_
        refine WL.assign .nil rfl rfl rfl rfl ?_
        with_reducible refine WL.nil ?_
        with_reducible refine Ex.thn_norm ?_
        with_reducible refine W.seq ?_
        with_reducible refine W.seq ?_
        with_reducible refine W.region ?_
        refine WL.move .nil rfl rfl rfl rfl ?_
        refine WL.bin .nil rfl rfl rfl rfl rfl rfl ?_
        with_reducible refine WL.nil ?_
        with_reducible refine Ex.thn_norm ?_
        refine W.condN rfl (fun hc531 => ?_) (fun hc531 => ?_)
        · replace hr := ite_neg hr hc531
          with_reducible refine W.exit ?_
          with_reducible refine Ex.thn_ex ?_
          with_reducible refine Ex.blk_out (by decide) ?_
          with_reducible refine Ex.thn_ex ?_
          with_reducible refine Ex.blk_here ?_
          with_reducible refine Ex.thn_norm ?_
          exact ⟨[(2, .pointer (some ⟨n0, 0, none⟩)), (3, .pointer (some ⟨(n0 + 1), 0, none⟩)), (4, .int .i64 x495)], (Fr.le_cons rfl (Fr.le_cons rfl (Fr.le_cons rfl Fr.le_nil))), x495, x496, x497, x498, x499, a500, cap501, xs502, x504, F491, rfl, hS525, (hE493.up (by omega)), ho523, fo506, ho524, fo508, h503, hr⟩
        · replace hr := ite_pos hr hc531
          with_reducible refine W.skip ?_
          with_reducible refine Ex.thn_norm ?_
          with_reducible refine W.seq ?_
          with_reducible refine W.region ?_
          refine WL.loadN .nil (l' := [.int .i64 x496, .int .i64 x497, .int .i64 x498, .int .i64 x499, .slice a500 xs502.length cap501, .int .i64 x504]) rfl rfl rfl Try.underlying40 rfl info40 rfl ho523 rfl rfl ?_
          refine WL.move .nil rfl rfl rfl rfl ?_
          obtain ⟨F532, hS533, hle534, h535, hf536⟩ := OW.freeze h526 hS525
          have fo537 := (hf536 _ ap528).trans fo506
          have fo538 := (hf536 _ ap529).trans fo508
          have hE539 : Ext n0 F0 n514 F532 := ⟨Nat.le_trans hE493.le (by omega), hE493.sub.trans hle534, fun i hi => (hf536 i (fun hj => by have := OW.id_lt h526 hj; omega)).trans (hE493.eq i hi)⟩
          obtain ⟨x540, hx540, hr⟩ := bnd_some hr
          refine GL.callP g.good .nil rfl rfl rfl rfl rfl rfl Try.func85 rfl rfl hS533.lo (f_spec_l03Take_k  g hS533 (h503.mono hle534) h535 hx540) (fun v n541 H542 hn543 hk544 hp545 => ?_)
          obtain ⟨F550, a546, cap547, hX551, hS549, rfl, h548⟩ := hp545
          have ho552 := (hk544 _ (by have := lt509; omega)).trans ho523
          have ho553 := (hk544 _ (by have := lt510; omega)).trans ho524
          have hS554 : St n0 n541 H542 F550 := ⟨by have := hS533.lo; omega, hS549.hb, hS549.fh⟩
          have fo555 := (hX551.eq _ (by have := lt509; omega)).trans fo537
          have fo556 := (hX551.eq _ (by have := lt510; omega)).trans fo538
          have hE557 := (hE539.up (n' := n514) (by omega)).trans hX551
          have hlon541 := hS554.lo
          refine WL.move .nil rfl rfl rfl rfl ?_
          refine WL.extract .nil rfl rfl rfl rfl rfl ?_
          refine WL.extract .nil rfl rfl rfl rfl rfl ?_
          refine GL.alloc hS554 .nil (zc := [.int .i64 0, .int .i64 0, .int .i64 0, .int .i64 0, .slice none 0 0, .int .i64 0]) rfl rfl rfl info40 rfl rfl rfl (fun H558 hS559 ho560 hk561 => ?_)
          have fo562 := hS554.fnone (Nat.le_refl _)
          have ho564 := (hk561 _ (by have := lt509; omega)).trans ho552
          have ho565 := (hk561 _ (by have := lt510; omega)).trans ho553
          have hlon5411 := hS559.lo
          have lt563 : n541 < (n541 + 1) := by omega
          refine GL.store hS559 .nil (vc := [.int .i64 x540.1.Term, .int .i64 x540.1.Vote, .int .i64 x540.1.Base, .int .i64 x540.1.BaseTerm, .slice a546 x540.1.Log.length cap547, .int .i64 x540.1.Good]) (c' := [.int .i64 x540.1.Term, .int .i64 x540.1.Vote, .int .i64 x540.1.Base, .int .i64 x540.1.BaseTerm, .slice a546 x540.1.Log.length cap547, .int .i64 x540.1.Good]) rfl rfl rfl info40 rfl rfl rfl rfl ho560 fo562 (Nat.le_of_ble_eq_true rfl) (by omega) (by repeat' (first | exact List.forall_mem_nil _ | refine List.forall_mem_cons.2 ⟨?_, ?_⟩ | rfl)) rfl (fun H566 hS567 ho568 hk569 => ?_)
          have ho570 := (hk569 _ (by omega)).trans ho564
          have ho571 := (hk569 _ (by omega)).trans ho565
          refine WL.assign .nil rfl rfl rfl rfl ?_
          with_reducible refine WL.nil ?_
          with_reducible refine Ex.thn_norm ?_
          with_reducible refine W.seq ?_
          with_reducible refine W.seq ?_
          with_reducible refine W.region ?_
          refine WL.move .nil rfl rfl rfl rfl ?_
          refine WL.not .nil rfl rfl rfl rfl ?_
          with_reducible refine WL.nil ?_
          with_reducible refine Ex.thn_norm ?_
          refine W.cond rfl (fun hc573 => ?_) (fun hc573 => ?_)
          · replace hr := iteB_pos hr hc573
            with_reducible refine W.exit ?_
            with_reducible refine Ex.thn_ex ?_
            with_reducible refine Ex.blk_out (by decide) ?_
            with_reducible refine Ex.thn_ex ?_
            with_reducible refine Ex.blk_here ?_
            with_reducible refine Ex.thn_norm ?_
            exact ⟨[(2, .pointer (some ⟨n0, 0, none⟩)), (3, .pointer (some ⟨(n0 + 1), 0, none⟩)), (4, .int .i64 x495)], (Fr.le_cons rfl (Fr.le_cons rfl (Fr.le_cons rfl Fr.le_nil))), x495, x496, x497, x498, x499, a500, cap501, xs502, x504, F550, rfl, hS567, (hE557.up (by omega)), ho570, fo555, ho571, fo556, ((h503.mono hle534).mono hX551.sub), hr⟩
          · replace hr := iteB_neg hr hc573
            with_reducible refine W.skip ?_
            with_reducible refine Ex.thn_norm ?_
            with_reducible refine W.seq ?_
            with_reducible refine W.region ?_
            refine WL.loadN .nil (l' := [.int .i64 x540.1.Term, .int .i64 x540.1.Vote, .int .i64 x540.1.Base, .int .i64 x540.1.BaseTerm, .slice a546 x540.1.Log.length cap547, .int .i64 x540.1.Good]) rfl rfl rfl Try.underlying40 rfl info40 rfl ho568 rfl rfl ?_
            refine GL.store hS567 .nil (vc := [.int .i64 x540.1.Term, .int .i64 x540.1.Vote, .int .i64 x540.1.Base, .int .i64 x540.1.BaseTerm, .slice a546 x540.1.Log.length cap547, .int .i64 x540.1.Good]) (c' := [.int .i64 x540.1.Term, .int .i64 x540.1.Vote, .int .i64 x540.1.Base, .int .i64 x540.1.BaseTerm, .slice a546 x540.1.Log.length cap547, .int .i64 x540.1.Good]) rfl rfl rfl info40 rfl rfl rfl rfl ho570 fo555 (Nat.le_of_ble_eq_true rfl) (by omega) (by repeat' (first | exact List.forall_mem_nil _ | refine List.forall_mem_cons.2 ⟨?_, ?_⟩ | rfl)) rfl (fun H574 hS575 ho576 hk577 => ?_)
            have ho578 := (hk577 _ (by omega)).trans ho571
            have ho579 := (hk577 _ (by omega)).trans ho568
            with_reducible refine WL.nil ?_
            with_reducible refine Ex.thn_norm ?_
            with_reducible refine W.region ?_
            refine WL.move .nil rfl rfl rfl rfl ?_
            refine WL.assign .nil rfl rfl rfl rfl ?_
            with_reducible refine WL.nil ?_
            with_reducible refine Ex.blk_norm ?_
            with_reducible refine Ex.thn_norm ?_
            exact ⟨[(0, .slice a2 xs1.length cap3), (2, .pointer (some ⟨n0, 0, none⟩)), (3, .pointer (some ⟨(n0 + 1), 0, none⟩)), (4, .int .i64 x513.2.1)], (Fr.le_cons rfl (Fr.le_cons rfl (Fr.le_cons rfl (Fr.le_cons rfl Fr.le_nil)))), x513.2.1, x540.1.Term, x540.1.Vote, x540.1.Base, x540.1.BaseTerm, a546, cap547, x540.1.Log, x540.1.Good, F550, rfl, hS575, (hE557.up (by omega)), ho576, fo555, ho578, fo556, ((h494.mono hle534).mono hX551.sub), h548, hr⟩
      · replace hr := ite_neg hr hc512
        with_reducible refine W.exit ?_
        with_reducible refine Ex.thn_ex ?_
        with_reducible refine Ex.thn_ex ?_
        with_reducible refine Ex.blk_here ?_
        with_reducible refine Ex.thn_norm ?_
        exact ⟨[(2, .pointer (some ⟨n0, 0, none⟩)), (3, .pointer (some ⟨(n0 + 1), 0, none⟩)), (4, .int .i64 x495)], (Fr.le_cons rfl (Fr.le_cons rfl (Fr.le_cons rfl Fr.le_nil))), x495, x496, x497, x498, x499, a500, cap501, xs502, x504, F491, rfl, hS492, hE493, ho505, fo506, ho507, fo508, h503, hr⟩
  · intro _ n286 H287 hI
    obtain ⟨x291, x292, x293, x294, x295, a296, cap297, xs298, x300, F288, rfl, hS289, hE290, ho301, fo302, ho303, fo304, h299, hr⟩ := hI
    have lt305 := hS289.lt ho301
    have lt306 := hS289.lt ho303
    have hlen286 := hE290.le
    have hlon286 := hS289.lo
    unfold f_spec_l03Recover_J0 at hr
    with_reducible refine W.seq ?_
    with_reducible refine W.region ?_
    refine WL.move .nil rfl rfl rfl rfl ?_
    refine WL.fieldAddr .nil rfl rfl rfl Try.underlying40 rfl info3 rfl rfl ?_
    refine GL.store hS289 .nil (vc := [.int .i64 x291]) (c' := [.int .i64 x292, .int .i64 x293, .int .i64 x294, .int .i64 x295, .slice a296 xs298.length cap297, .int .i64 x291]) rfl rfl rfl info3 rfl rfl rfl rfl ho301 fo302 (Nat.le_of_ble_eq_true rfl) (by omega) (by repeat' (first | exact List.forall_mem_nil _ | refine List.forall_mem_cons.2 ⟨?_, ?_⟩ | rfl)) rfl (fun H307 hS308 ho309 hk310 => ?_)
    have ho311 := (hk310 _ (by omega)).trans ho303
    with_reducible refine WL.nil ?_
    with_reducible refine Ex.thn_norm ?_
    with_reducible refine W.seq ?_
    with_reducible refine W.region ?_
    refine WL.loadN .nil (l' := [.int .i64 x292, .int .i64 x293, .int .i64 x294, .int .i64 x295, .slice a296 xs298.length cap297, .int .i64 x291]) rfl rfl rfl Try.underlying40 rfl info40 rfl ho309 rfl rfl ?_
    refine GL.store hS308 .nil (vc := [.int .i64 x292, .int .i64 x293, .int .i64 x294, .int .i64 x295, .slice a296 xs298.length cap297, .int .i64 x291]) (c' := [.int .i64 x292, .int .i64 x293, .int .i64 x294, .int .i64 x295, .slice a296 xs298.length cap297, .int .i64 x291]) rfl rfl rfl info40 rfl rfl rfl rfl ho311 fo304 (Nat.le_of_ble_eq_true rfl) (by omega) (by repeat' (first | exact List.forall_mem_nil _ | refine List.forall_mem_cons.2 ⟨?_, ?_⟩ | rfl)) rfl (fun H312 hS313 ho314 hk315 => ?_)
    have ho316 := (hk315 _ (by omega)).trans ho309
    with_reducible refine WL.nil ?_
    with_reducible refine Ex.thn_norm ?_
    with_reducible refine W.ret ?_
    obtain rfl := Option.some.inj hr
    exact ⟨.inr rfl, _, (.cons (.cellN (l := [.int .i64 x292, .int .i64 x293, .int .i64 x294, .int .i64 x295, .slice a296 xs298.length cap297, .int .i64 x291]) rfl Try.underlying40 rfl info40 ho314 rfl rfl) .nil), ⟨F288, a296, cap297, (hE290.up (by omega)), hS313, rfl, h299⟩⟩
theorem f_spec_Recover_k {Δ : Prims} (g : Env Try.prog Δ) {lo n0 : Nat} {H0 F0 : Heap} (hS : St lo n0 H0 F0) {a2 : Option Addr} {cap3 : Nat} {xs1 : (List UInt8)} (h4 : SR F0 (.slice a2 xs1.length cap3) xs1) {res : (GWal × Int)} (hr : f_spec_Recover xs1 = some res) :
    C Try.prog Δ n0 15 [.slice a2 xs1.length cap3] n0 H0 (fun v n H => ∃ (F : Heap) (ra1 : Option Addr) (rcap2 : Nat), Ext n0 F0 n F ∧ St n0 n H F ∧ v = .tuple #[.agg [.int .i64 res.1.Term, .int .i64 res.1.Vote, .int .i64 res.1.Base, .int .i64 res.1.BaseTerm, .slice ra1 res.1.Log.length rcap2, .int .i64 res.1.Good].toArray, .int .i64 res.2] ∧ SR F (.slice ra1 res.1.Log.length rcap2) res.1.Log) := by
  refine C.body Try.func15 rfl rfl ?_
  unfold f_spec_Recover at hr
  have hS0 : St n0 n0 H0 F0 := hS.low (Nat.le_refl _)
  have hE0 := Ext.refl n0 F0
  have hlo0 := hS0.lo
  with_reducible refine W.seq ?_
  with_reducible refine W.region ?_
  refine GL.alloc hS0 .nil (zc := [.int .i64 0, .int .i64 0, .int .i64 0, .int .i64 0, .slice none 0 0, .int .i64 0]) rfl rfl rfl info40 rfl rfl rfl (fun H5 hS6 ho7 hk8 => ?_)
  have fo9 := hS0.fnone (Nat.le_refl _)
  have hlon01 := hS6.lo
  have lt10 : n0 < (n0 + 1) := by omega
  refine WL.assign .nil rfl rfl rfl rfl ?_
  with_reducible refine WL.nil ?_
  with_reducible refine Ex.thn_norm ?_
  with_reducible refine W.seq ?_
  with_reducible refine W.seq ?_
  with_reducible refine W.region ?_
  refine WL.move .nil rfl rfl rfl rfl ?_
  refine WL.len .nil rfl rfl rfl Try.underlying24 rfl ?_
  refine WL.bin .nil rfl rfl rfl rfl rfl rfl ?_
  with_reducible refine WL.nil ?_
  with_reducible refine Ex.thn_norm ?_
  refine W.condD rfl (fun hc16 => ?_) (fun hc16 => ?_)
  · replace hr := ite_pos hr hc16
    with_reducible refine W.seq ?_
    with_reducible refine W.region ?_
    refine WL.buildL .nil (cells := [.int .i64 0, .int .i64 0, .int .i64 0, .int .i64 0, .slice none 0 0, .int .i64 0]) rfl rfl rfl Try.underlying40 info40 rfl rfl rfl (by simp only [List.mapM_cons, List.mapM_nil, info3, info3, info3, info3, info30, info3]; rfl) rfl (by first | rfl | ((conv => lhs; simp [splice, fillL, cells_int, cells_bool, cells_string, cells_str, cells_slice, cells_ptr, cells_map, cells_func, cells_nilFunc, cells_nilIface, cells_iface, cells_agg, cells_u8]) <;> rfl)) ?_
    refine GL.store hS6 .nil (vc := [.int .i64 0, .int .i64 0, .int .i64 0, .int .i64 0, .slice none 0 0, .int .i64 0]) (c' := [.int .i64 0, .int .i64 0, .int .i64 0, .int .i64 0, .slice none 0 0, .int .i64 0]) rfl rfl rfl info40 rfl rfl rfl rfl ho7 fo9 (Nat.le_of_ble_eq_true rfl) (by omega) (by repeat' (first | exact List.forall_mem_nil _ | refine List.forall_mem_cons.2 ⟨?_, ?_⟩ | rfl)) rfl (fun H17 hS18 ho19 hk20 => ?_)
    refine WL.assign .nil rfl rfl rfl rfl ?_
    with_reducible refine WL.nil ?_
    with_reducible refine Ex.thn_norm ?_
    with_reducible refine W.ret ?_
    with_reducible refine Ex.thn_ret ?_
    obtain rfl := Option.some.inj hr
    exact ⟨.inr rfl, _, (.cons (.cellN (l := [.int .i64 0, .int .i64 0, .int .i64 0, .int .i64 0, .slice none 0 0, .int .i64 0]) rfl Try.underlying40 rfl info40 ho19 rfl rfl) (.cons (.tmp rfl) .nil)), ⟨F0, none, 0, (hE0.up (by omega)), hS18, rfl, SR.nil⟩⟩
  · replace hr := ite_neg hr hc16
    with_reducible refine W.skip ?_
    with_reducible refine Ex.thn_norm ?_
    with_reducible refine W.seq ?_
    with_reducible refine W.region ?_
    refine WL.move .nil rfl rfl rfl rfl ?_
    obtain ⟨x21, hx21, hr⟩ := bnd_some hr
    refine GL.callP g.good .nil rfl rfl rfl rfl rfl rfl Try.func47 rfl rfl hS6.lo (f_spec_l03Recover_k  g hS6 h4 hx21) (fun v n22 H23 hn24 hk25 hp26 => ?_)
    obtain ⟨F31, a27, cap28, hX32, hS30, rfl, h29⟩ := hp26
    have ho33 := (hk25 _ (by have := lt10; omega)).trans ho7
    have hS34 : St n0 n22 H23 F31 := ⟨by have := hS6.lo; omega, hS30.hb, hS30.fh⟩
    have fo35 := (hX32.eq _ (by have := lt10; omega)).trans fo9
    have hE36 := (hE0.up (n' := (n0 + 1)) (by omega)).trans hX32
    have hlon22 := hS34.lo
    refine GL.store hS34 .nil (vc := [.int .i64 x21.Term, .int .i64 x21.Vote, .int .i64 x21.Base, .int .i64 x21.BaseTerm, .slice a27 x21.Log.length cap28, .int .i64 x21.Good]) (c' := [.int .i64 x21.Term, .int .i64 x21.Vote, .int .i64 x21.Base, .int .i64 x21.BaseTerm, .slice a27 x21.Log.length cap28, .int .i64 x21.Good]) rfl rfl rfl info40 rfl rfl rfl rfl ho33 fo35 (Nat.le_of_ble_eq_true rfl) (by omega) (by repeat' (first | exact List.forall_mem_nil _ | refine List.forall_mem_cons.2 ⟨?_, ?_⟩ | rfl)) rfl (fun H37 hS38 ho39 hk40 => ?_)
    refine WL.assign .nil rfl rfl rfl rfl ?_
    with_reducible refine WL.nil ?_
    with_reducible refine Ex.thn_norm ?_
    with_reducible refine W.ret ?_
    obtain rfl := Option.some.inj hr
    exact ⟨.inr rfl, _, (.cons (.cellN (l := [.int .i64 x21.Term, .int .i64 x21.Vote, .int .i64 x21.Base, .int .i64 x21.BaseTerm, .slice a27 x21.Log.length cap28, .int .i64 x21.Good]) rfl Try.underlying40 rfl info40 ho39 rfl rfl) (.cons (.tmp rfl) .nil)), ⟨F31, a27, cap28, (hE36.up (by omega)), hS38, rfl, h29⟩⟩
theorem f_laws_sameRecs_k {Δ : Prims} (g : Env Try.prog Δ) {lo n0 : Nat} {H0 F0 : Heap} (hS : St lo n0 H0 F0) {a2 : Option Addr} {cap3 : Nat} {xs1 : (List GRec)} {a6 : Option Addr} {cap7 : Nat} {xs5 : (List GRec)} (h4 : SR F0 (.slice a2 xs1.length cap3) xs1) (h8 : SR F0 (.slice a6 xs5.length cap7) xs5) {res : (Bool)} (hr : f_laws_sameRecs xs1 xs5 = some res) :
    C Try.prog Δ n0 48 [.slice a2 xs1.length cap3, .slice a6 xs5.length cap7] n0 H0 (fun v n H => St n0 n H F0 ∧ v = .bool res) := by
  refine C.body Try.func48 rfl rfl ?_
  unfold f_laws_sameRecs at hr
  have hS0 : St n0 n0 H0 F0 := hS.low (Nat.le_refl _)
  have hE0 := Ext.refl n0 F0
  have hlo0 := hS0.lo
  with_reducible refine W.seq ?_
  with_reducible refine W.region ?_
  refine WL.assign .nil rfl rfl rfl rfl ?_
  with_reducible refine WL.nil ?_
  with_reducible refine Ex.thn_norm ?_
  with_reducible refine W.seq ?_
  with_reducible refine W.seq ?_
  with_reducible refine W.region ?_
  refine WL.move .nil rfl rfl rfl rfl ?_
  refine WL.len .nil rfl rfl rfl Try.underlying30 rfl ?_
  refine WL.move .nil rfl rfl rfl rfl ?_
  refine WL.len .nil rfl rfl rfl Try.underlying30 rfl ?_
  refine WL.bin .nil rfl rfl rfl rfl rfl rfl ?_
  with_reducible refine WL.nil ?_
  with_reducible refine Ex.thn_norm ?_
  refine W.condN rfl (fun hc10 => ?_) (fun hc10 => ?_)
  · replace hr := ite_neg hr hc10
    with_reducible refine W.seq ?_
    with_reducible refine W.region ?_
    refine WL.assign .nil rfl rfl rfl rfl ?_
    with_reducible refine WL.nil ?_
    with_reducible refine Ex.thn_norm ?_
    with_reducible refine W.ret ?_
    with_reducible refine Ex.thn_ret ?_
    obtain rfl := Option.some.inj hr
    exact ⟨.inr rfl, _, (.cons (.tmp rfl) .nil), ⟨(Ext.st hE0 hS0), rfl⟩⟩
  · replace hr := ite_pos hr hc10
    with_reducible refine W.skip ?_
    with_reducible refine Ex.thn_norm ?_
    with_reducible refine W.seq ?_
    with_reducible refine W.seq ?_
    with_reducible refine W.region ?_
    refine WL.assign .nil rfl rfl rfl rfl ?_
    with_reducible refine WL.nil ?_
    with_reducible refine Ex.thn_norm ?_
    with_reducible refine W.block ?_
    refine W.loopF (fun k0 fr n H => ∃ (x619 : Int) (F : Heap), fr = [(0, .slice a2 xs1.length cap3), (1, .slice a6 xs5.length cap7), (5, .int .i64 x619)] ∧ St n0 n H F ∧ Ext n0 F0 n F ∧ SR F (.slice a2 xs1.length cap3) xs1 ∧ SR F (.slice a6 xs5.length cap7) xs5 ∧ f_laws_sameRecs_L0 xs1 xs5 k0 x619 = some res) BIG (fr0 := [(0, .slice a2 xs1.length cap3), (1, .slice a6 xs5.length cap7), (5, .int .i64 0)]) (Fr.le_cons rfl (Fr.le_cons rfl (Fr.le_cons rfl Fr.le_nil))) ?_ ?_ ?_
    · exact ⟨0, F0, rfl, hS0, hE0, h4, h8, hr⟩
    · intro fr n H hI
      obtain ⟨x619, F614, hfr, hS615, hE616, h617, h618, hr⟩ := hI
      rw [f_laws_sameRecs_L0] at hr
      cases hr
    · intro k0 _ n612 H613 hI
      obtain ⟨x619, F614, rfl, hS615, hE616, h617, h618, hr⟩ := hI
      have hlen612 := hE616.le
      have hlon612 := hS615.lo
      rw [f_laws_sameRecs_L0] at hr
      with_reducible refine W.seq ?_
      with_reducible refine W.seq ?_
      with_reducible refine W.region ?_
      refine WL.move .nil rfl rfl rfl rfl ?_
      refine WL.move .nil rfl rfl rfl rfl ?_
      refine WL.len .nil rfl rfl rfl Try.underlying30 rfl ?_
      refine WL.bin .nil rfl rfl rfl rfl rfl rfl ?_
      with_reducible refine WL.nil ?_
      with_reducible refine Ex.thn_norm ?_
      refine W.condD rfl (fun hc621 => ?_) (fun hc621 => ?_)
      · replace hr := ite_pos hr hc621
        with_reducible refine W.skip ?_
        with_reducible refine Ex.thn_norm ?_
        with_reducible refine W.seq ?_
        with_reducible refine W.block ?_
        with_reducible refine W.seq ?_
        refine W.cut (fun fr n H => ∃ (x842 : Bool) (F : Heap), fr = [(0, .slice a2 xs1.length cap3), (1, .slice a6 xs5.length cap7), (5, .int .i64 x619), (55, .bool x842)] ∧ St n0 n H F ∧ Ext n0 F0 n F ∧ SR F (.slice a2 xs1.length cap3) xs1 ∧ SR F (.slice a6 xs5.length cap7) xs5 ∧ f_laws_sameRecs_J1 x619 (f_laws_sameRecs_L0 xs1 xs5 k0) x842 = some res) ?_ ?_
        · refine W.regionD [0, 1, 2, 3, 4, 5, 6, 7, 8, 9, 10, 11, 12, 13, 14, 15, 16, 17, 18, 19, 20, 21, 22, 23, 24, 25, 26, 27, 28, 29, 30, 31, 32, 33, 34, 35, 36, 37, 38] [false, false, false, false, false, false, false, false, false, false, false, false, false, false, false, false, false, false, false, false, false, false, false, false, false, false, false, false, false, false, false, false, false, false, false, false, false, false, false] rfl rfl (by kernel_rfl) (by kernel_rfl) (by (conv => lhs; simp only [List.map_cons, List.map_nil, List.getD_cons_zero, List.getD_cons_succ]) <;> rfl) ?_
          refine WL.move .r rfl rfl rfl rfl ?_
          refine WL.move .r rfl rfl rfl rfl ?_
          obtain ⟨x845, hx845, hr⟩ := bnd_some hr
          refine GL.index .r rfl rfl rfl Try.underlying30 info37 rfl rfl h617 hS615.fh rfl hx845 (fun b846 kp847 c848 ecs849 hrow850 hwin851 hR852 => ?_)
          obtain ⟨a853, cap854, rfl, h855⟩ := GRec.ofR hR852
          refine WL.fieldAddr .r rfl rfl rfl Try.underlying37 rfl info3 rfl rfl ?_
          refine WL.load1 .r rfl rfl rfl Try.underlying3 rfl rfl hrow850 ((win_get0 hwin851 (show (0 : Nat) < 3 by decide)).trans rfl) ?_
          refine WL.move .r rfl rfl rfl rfl ?_
          refine WL.move .r rfl rfl rfl rfl ?_
          obtain ⟨x856, hx856, hr⟩ := bnd_some hr
          refine GL.index .r rfl rfl rfl Try.underlying30 info37 rfl rfl h618 hS615.fh rfl hx856 (fun b857 kp858 c859 ecs860 hrow861 hwin862 hR863 => ?_)
          obtain ⟨a864, cap865, rfl, h866⟩ := GRec.ofR hR863
          refine WL.fieldAddr .r rfl rfl rfl Try.underlying37 rfl info3 rfl rfl ?_
          refine WL.load1 .r rfl rfl rfl Try.underlying3 rfl rfl hrow861 ((win_get0 hwin862 (show (0 : Nat) < 3 by decide)).trans rfl) ?_
          refine WL.bin .r rfl rfl rfl rfl rfl rfl ?_
          refine WL.move .r rfl rfl rfl rfl ?_
          refine WL.guardN rfl rfl rfl (fun hg867 => ?_) (fun hg867 => ?_)
          · replace hr := ite_neg hr hg867
            refine WL.skip .r rfl rfl ?_
            refine WL.skip .r rfl rfl ?_
            refine WL.skip .r rfl rfl ?_
            refine WL.skip .r rfl rfl ?_
            refine WL.skip .r rfl rfl ?_
            refine WL.skip .r rfl rfl ?_
            refine WL.skip .r rfl rfl ?_
            refine WL.skip .r rfl rfl ?_
            refine WL.skip .r rfl rfl ?_
            refine WL.skip .r rfl rfl ?_
            refine WL.skip .r rfl rfl ?_
            refine WL.pick .r rfl rfl rfl rfl rfl ?_
            refine WL.move .r rfl rfl rfl rfl ?_
            refine WL.skip .r rfl rfl ?_
            refine WL.skip .r rfl rfl ?_
            refine WL.skip .r rfl rfl ?_
            refine WL.skip .r rfl rfl ?_
            refine WL.skip .r rfl rfl ?_
            refine WL.skip .r rfl rfl ?_
            refine WL.skip .r rfl rfl ?_
            refine WL.skip .r rfl rfl ?_
            refine WL.skip .r rfl rfl ?_
            refine WL.skip .r rfl rfl ?_
            refine WL.skip .r rfl rfl ?_
            refine WL.skip .r rfl rfl ?_
            refine WL.skip .r rfl rfl ?_
            refine WL.pick .r rfl rfl rfl rfl rfl ?_
            with_reducible refine WL.nil ?_
            with_reducible refine Ex.thn_norm ?_
            exact ⟨[(0, .slice a2 xs1.length cap3), (1, .slice a6 xs5.length cap7), (5, .int .i64 x619), (55, .bool true)], (Fr.le_cons rfl (Fr.le_cons rfl (Fr.le_cons rfl (Fr.le_cons rfl Fr.le_nil)))), true, F614, rfl, hS615, hE616, h617, h618, hr⟩
          · replace hr := ite_pos hr hg867
            refine WL.move .r rfl rfl rfl rfl ?_
            refine WL.move .r rfl rfl rfl rfl ?_
            obtain ⟨x868, hx868, hr⟩ := bnd_some hr
            refine GL.index .r rfl rfl rfl Try.underlying30 info37 rfl rfl h617 hS615.fh rfl hx868 (fun b869 kp870 c871 ecs872 hrow873 hwin874 hR875 => ?_)
            obtain ⟨a876, cap877, rfl, h878⟩ := GRec.ofR hR875
            refine WL.fieldAddr .r rfl rfl rfl Try.underlying37 rfl info3 rfl rfl ?_
            refine WL.load1 .r rfl rfl rfl Try.underlying3 rfl rfl hrow873 ((win_get (m := 1) hwin874 (show (1 : Nat) < 3 by decide)).trans rfl) ?_
            refine WL.move .r rfl rfl rfl rfl ?_
            refine WL.move .r rfl rfl rfl rfl ?_
            obtain ⟨x879, hx879, hr⟩ := bnd_some hr
            refine GL.index .r rfl rfl rfl Try.underlying30 info37 rfl rfl h618 hS615.fh rfl hx879 (fun b880 kp881 c882 ecs883 hrow884 hwin885 hR886 => ?_)
            obtain ⟨a887, cap888, rfl, h889⟩ := GRec.ofR hR886
            refine WL.fieldAddr .r rfl rfl rfl Try.underlying37 rfl info3 rfl rfl ?_
            refine WL.load1 .r rfl rfl rfl Try.underlying3 rfl rfl hrow884 ((win_get (m := 1) hwin885 (show (1 : Nat) < 3 by decide)).trans rfl) ?_
            refine WL.bin .r rfl rfl rfl rfl rfl rfl ?_
            refine WL.pick .r rfl rfl rfl rfl rfl ?_
            refine WL.move .r rfl rfl rfl rfl ?_
            refine WL.guardN rfl rfl rfl (fun hg890 => ?_) (fun hg890 => ?_)
            · replace hr := ite_neg hr hg890
              refine WL.skip .r rfl rfl ?_
              refine WL.skip .r rfl rfl ?_
              refine WL.skip .r rfl rfl ?_
              refine WL.skip .r rfl rfl ?_
              refine WL.skip .r rfl rfl ?_
              refine WL.skip .r rfl rfl ?_
              refine WL.skip .r rfl rfl ?_
              refine WL.skip .r rfl rfl ?_
              refine WL.skip .r rfl rfl ?_
              refine WL.skip .r rfl rfl ?_
              refine WL.skip .r rfl rfl ?_
              refine WL.skip .r rfl rfl ?_
              refine WL.skip .r rfl rfl ?_
              refine WL.pick .r rfl rfl rfl rfl rfl ?_
              with_reducible refine WL.nil ?_
              with_reducible refine Ex.thn_norm ?_
              exact ⟨[(0, .slice a2 xs1.length cap3), (1, .slice a6 xs5.length cap7), (5, .int .i64 x619), (55, .bool true)], (Fr.le_cons rfl (Fr.le_cons rfl (Fr.le_cons rfl (Fr.le_cons rfl Fr.le_nil)))), true, F614, rfl, hS615, hE616, h617, h618, hr⟩
            · replace hr := ite_pos hr hg890
              refine WL.move .r rfl rfl rfl rfl ?_
              refine WL.move .r rfl rfl rfl rfl ?_
              obtain ⟨x891, hx891, hr⟩ := bnd_some hr
              refine GL.index .r rfl rfl rfl Try.underlying30 info37 rfl rfl h617 hS615.fh rfl hx891 (fun b892 kp893 c894 ecs895 hrow896 hwin897 hR898 => ?_)
              obtain ⟨a899, cap900, rfl, h901⟩ := GRec.ofR hR898
              refine WL.fieldAddr .r rfl rfl rfl Try.underlying37 rfl info24 rfl rfl ?_
              refine WL.load1 .r rfl rfl rfl Try.underlying24 rfl rfl hrow896 ((win_get (m := 2) hwin897 (show (2 : Nat) < 3 by decide)).trans rfl) ?_
              refine GL.toStr .r rfl rfl rfl Try.underlying24 Try.underlying9 Try.underlying5 rfl h901 hS615.fh ?_
              refine WL.move .r rfl rfl rfl rfl ?_
              refine WL.move .r rfl rfl rfl rfl ?_
              obtain ⟨x902, hx902, hr⟩ := bnd_some hr
              refine GL.index .r rfl rfl rfl Try.underlying30 info37 rfl rfl h618 hS615.fh rfl hx902 (fun b903 kp904 c905 ecs906 hrow907 hwin908 hR909 => ?_)
              obtain ⟨a910, cap911, rfl, h912⟩ := GRec.ofR hR909
              refine WL.fieldAddr .r rfl rfl rfl Try.underlying37 rfl info24 rfl rfl ?_
              refine WL.load1 .r rfl rfl rfl Try.underlying24 rfl rfl hrow907 ((win_get (m := 2) hwin908 (show (2 : Nat) < 3 by decide)).trans rfl) ?_
              refine GL.toStr .r rfl rfl rfl Try.underlying24 Try.underlying9 Try.underlying5 rfl h912 hS615.fh ?_
              refine GL.strCmp .r rfl rfl rfl rfl rfl (by decide) rfl ?_
              refine WL.pick .r rfl rfl rfl rfl rfl ?_
              with_reducible refine WL.nil ?_
              with_reducible refine Ex.thn_norm ?_
              exact ⟨[(0, .slice a2 xs1.length cap3), (1, .slice a6 xs5.length cap7), (5, .int .i64 x619), (55, .bool (!decide ((x891.Data : List UInt8) = x902.Data)))], (Fr.le_cons rfl (Fr.le_cons rfl (Fr.le_cons rfl (Fr.le_cons rfl Fr.le_nil)))), (!decide ((x891.Data : List UInt8) = x902.Data)), F614, rfl, hS615, hE616, h617, h618, hr⟩
        · intro _ n835 H836 hI
          obtain ⟨x842, F837, rfl, hS838, hE839, h840, h841, hr⟩ := hI
          have hlen835 := hE839.le
          have hlon835 := hS838.lo
          unfold f_laws_sameRecs_J1 at hr
          refine W.cond rfl (fun hc843 => ?_) (fun hc843 => ?_)
          · replace hr := iteB_pos hr hc843
            with_reducible refine W.seq ?_
            with_reducible refine W.region ?_
            refine WL.assign .nil rfl rfl rfl rfl ?_
            with_reducible refine WL.nil ?_
            with_reducible refine Ex.thn_norm ?_
            with_reducible refine W.ret ?_
            with_reducible refine Ex.blk_ret ?_
            with_reducible refine Ex.thn_ret ?_
            with_reducible refine Ex.thn_ret ?_
            with_reducible refine Ex.blk_ret ?_
            with_reducible refine Ex.thn_ret ?_
            obtain rfl := Option.some.inj hr
            exact ⟨.inr rfl, _, (.cons (.tmp rfl) .nil), ⟨(Ext.st hE839 hS838), rfl⟩⟩
          · replace hr := iteB_neg hr hc843
            with_reducible refine W.skip ?_
            with_reducible refine Ex.blk_norm ?_
            with_reducible refine Ex.thn_norm ?_
            with_reducible refine W.region ?_
            refine WL.move .nil rfl rfl rfl rfl ?_
            obtain ⟨hc844, hr⟩ := chk_some hr
            refine WL.addI .nil rfl rfl rfl rfl rfl hc844.1 hc844.2 ?_
            refine WL.assign .nil rfl rfl rfl rfl ?_
            with_reducible refine WL.nil ?_
            with_reducible refine Ex.thn_norm ?_
            exact ⟨[(0, .slice a2 xs1.length cap3), (1, .slice a6 xs5.length cap7), (5, .int .i64 (x619 + 1))], (Fr.le_cons rfl (Fr.le_cons rfl (Fr.le_cons rfl Fr.le_nil))), (x619 + 1), F837, rfl, hS838, hE839, h840, h841, hr⟩
      · replace hr := ite_neg hr hc621
        with_reducible refine W.exit ?_
        with_reducible refine Ex.thn_ex ?_
        with_reducible refine Ex.thn_ex ?_
        with_reducible refine Ex.blk_here ?_
        with_reducible refine Ex.thn_norm ?_
        with_reducible refine W.seq ?_
        with_reducible refine W.region ?_
        refine WL.assign .nil rfl rfl rfl rfl ?_
        with_reducible refine WL.nil ?_
        with_reducible refine Ex.thn_norm ?_
        with_reducible refine W.ret ?_
        obtain rfl := Option.some.inj hr
        exact ⟨.inr rfl, _, (.cons (.tmp rfl) .nil), ⟨(Ext.st hE616 hS615), rfl⟩⟩
theorem f_laws_sameWal_k {Δ : Prims} (g : Env Try.prog Δ) {lo n0 : Nat} {H0 F0 : Heap} (hS : St lo n0 H0 F0) {x1 : GWal} {a2 : Option Addr} {cap3 : Nat} {x5 : GWal} {a6 : Option Addr} {cap7 : Nat} (h4 : SR F0 (.slice a2 x1.Log.length cap3) x1.Log) (h8 : SR F0 (.slice a6 x5.Log.length cap7) x5.Log) {res : (Bool)} (hr : f_laws_sameWal x1 x5 = some res) :
    C Try.prog Δ n0 16 [.agg [.int .i64 x1.Term, .int .i64 x1.Vote, .int .i64 x1.Base, .int .i64 x1.BaseTerm, .slice a2 x1.Log.length cap3, .int .i64 x1.Good].toArray, .agg [.int .i64 x5.Term, .int .i64 x5.Vote, .int .i64 x5.Base, .int .i64 x5.BaseTerm, .slice a6 x5.Log.length cap7, .int .i64 x5.Good].toArray] n0 H0 (fun v n H => St n0 n H F0 ∧ v = .bool res) := by
  refine C.body Try.func16 rfl rfl ?_
  unfold f_laws_sameWal at hr
  have hS0 : St n0 n0 H0 F0 := hS.low (Nat.le_refl _)
  have hE0 := Ext.refl n0 F0
  have hlo0 := hS0.lo
  with_reducible refine W.seq ?_
  with_reducible refine W.region ?_
  refine GL.box hS0 .nil (vc := [.int .i64 x1.Term, .int .i64 x1.Vote, .int .i64 x1.Base, .int .i64 x1.BaseTerm, .slice a2 x1.Log.length cap3, .int .i64 x1.Good]) rfl rfl rfl rfl rfl (by repeat' (first | exact List.forall_mem_nil _ | refine List.forall_mem_cons.2 ⟨?_, ?_⟩ | rfl)) (fun H9 hS10 ho11 hk12 => ?_)
  have fo13 := hS0.fnone (Nat.le_refl _)
  have hlon01 := hS10.lo
  have lt14 : n0 < (n0 + 1) := by omega
  refine GL.box hS10 .nil (vc := [.int .i64 x5.Term, .int .i64 x5.Vote, .int .i64 x5.Base, .int .i64 x5.BaseTerm, .slice a6 x5.Log.length cap7, .int .i64 x5.Good]) rfl rfl rfl rfl rfl (by repeat' (first | exact List.forall_mem_nil _ | refine List.forall_mem_cons.2 ⟨?_, ?_⟩ | rfl)) (fun H15 hS16 ho17 hk18 => ?_)
  have fo19 := hS10.fnone (Nat.le_refl _)
  have ho21 := (hk18 _ (by have := lt14; omega)).trans ho11
  have hlon011 := hS16.lo
  have lt20 : (n0 + 1) < ((n0 + 1) + 1) := by omega
  refine WL.assign .nil rfl rfl rfl rfl ?_
  with_reducible refine WL.nil ?_
  with_reducible refine Ex.thn_norm ?_
  with_reducible refine W.seq ?_
  with_reducible refine W.region ?_
  refine WL.fieldAddr .nil rfl rfl rfl Try.underlying40 rfl info3 rfl rfl ?_
  refine WL.load1 .nil rfl rfl rfl Try.underlying3 rfl rfl ho21 rfl ?_
  refine WL.fieldAddr .nil rfl rfl rfl Try.underlying40 rfl info3 rfl rfl ?_
  refine WL.load1 .nil rfl rfl rfl Try.underlying3 rfl rfl ho17 rfl ?_
  refine WL.bin .nil rfl rfl rfl rfl rfl rfl ?_
  refine WL.move .nil rfl rfl rfl rfl ?_
  refine WL.guardD rfl rfl rfl (fun hg22 => ?_) (fun hg22 => ?_)
  · replace hr := ite_pos hr hg22
    refine WL.fieldAddr .nil rfl rfl rfl Try.underlying40 rfl info3 rfl rfl ?_
    refine WL.load1 .nil rfl rfl rfl Try.underlying3 rfl rfl ho21 rfl ?_
    refine WL.fieldAddr .nil rfl rfl rfl Try.underlying40 rfl info3 rfl rfl ?_
    refine WL.load1 .nil rfl rfl rfl Try.underlying3 rfl rfl ho17 rfl ?_
    refine WL.bin .nil rfl rfl rfl rfl rfl rfl ?_
    refine WL.pick .nil rfl rfl rfl rfl rfl ?_
    refine WL.move .nil rfl rfl rfl rfl ?_
    refine WL.guardD rfl rfl rfl (fun hg23 => ?_) (fun hg23 => ?_)
    · replace hr := ite_pos hr hg23
      refine WL.fieldAddr .nil rfl rfl rfl Try.underlying40 rfl info3 rfl rfl ?_
      refine WL.load1 .nil rfl rfl rfl Try.underlying3 rfl rfl ho21 rfl ?_
      refine WL.fieldAddr .nil rfl rfl rfl Try.underlying40 rfl info3 rfl rfl ?_
      refine WL.load1 .nil rfl rfl rfl Try.underlying3 rfl rfl ho17 rfl ?_
      refine WL.bin .nil rfl rfl rfl rfl rfl rfl ?_
      refine WL.pick .nil rfl rfl rfl rfl rfl ?_
      refine WL.move .nil rfl rfl rfl rfl ?_
      refine WL.guardD rfl rfl rfl (fun hg24 => ?_) (fun hg24 => ?_)
      · replace hr := ite_pos hr hg24
        refine WL.fieldAddr .nil rfl rfl rfl Try.underlying40 rfl info3 rfl rfl ?_
        refine WL.load1 .nil rfl rfl rfl Try.underlying3 rfl rfl ho21 rfl ?_
        refine WL.fieldAddr .nil rfl rfl rfl Try.underlying40 rfl info3 rfl rfl ?_
        refine WL.load1 .nil rfl rfl rfl Try.underlying3 rfl rfl ho17 rfl ?_
        refine WL.bin .nil rfl rfl rfl rfl rfl rfl ?_
        refine WL.pick .nil rfl rfl rfl rfl rfl ?_
        refine WL.move .nil rfl rfl rfl rfl ?_
        refine WL.guardD rfl rfl rfl (fun hg25 => ?_) (fun hg25 => ?_)
        · replace hr := ite_pos hr hg25
          refine WL.fieldAddr .nil rfl rfl rfl Try.underlying40 rfl info30 rfl rfl ?_
          refine WL.load1 .nil rfl rfl rfl Try.underlying30 rfl rfl ho21 rfl ?_
          refine WL.fieldAddr .nil rfl rfl rfl Try.underlying40 rfl info30 rfl rfl ?_
          refine WL.load1 .nil rfl rfl rfl Try.underlying30 rfl rfl ho17 rfl ?_
          obtain ⟨x26, hx26, hr⟩ := bnd_some hr
          refine GL.callP g.good .nil rfl rfl rfl rfl rfl rfl Try.func48 rfl rfl hS16.lo (f_laws_sameRecs_k  g hS16 h4 h8 hx26) (fun v n27 H28 hn29 hk30 hp31 => ?_)
          obtain ⟨hS32, rfl⟩ := hp31
          have ho33 := (hk30 _ (by have := lt14; omega)).trans ho21
          have ho34 := (hk30 _ (by have := lt20; omega)).trans ho17
          have hS35 : St n0 n27 H28 F0 := ⟨by have := hS16.lo; omega, hS32.hb, hS32.fh⟩
          have hlon27 := hS35.lo
          refine WL.pick .nil rfl rfl rfl rfl rfl ?_
          refine WL.assign .nil rfl rfl rfl rfl ?_
          with_reducible refine WL.nil ?_
          with_reducible refine Ex.thn_norm ?_
          with_reducible refine W.ret ?_
          obtain rfl := Option.some.inj hr
          exact ⟨.inr rfl, _, (.cons (.tmp rfl) .nil), ⟨(Ext.st hE0 hS35), rfl⟩⟩
        · replace hr := ite_neg hr hg25
          refine WL.skip .nil rfl rfl ?_
          refine WL.skip .nil rfl rfl ?_
          refine WL.skip .nil rfl rfl ?_
          refine WL.skip .nil rfl rfl ?_
          refine WL.skip .nil rfl rfl ?_
          refine WL.pick .nil rfl rfl rfl rfl rfl ?_
          refine WL.assign .nil rfl rfl rfl rfl ?_
          with_reducible refine WL.nil ?_
          with_reducible refine Ex.thn_norm ?_
          with_reducible refine W.ret ?_
          obtain rfl := Option.some.inj hr
          exact ⟨.inr rfl, _, (.cons (.tmp rfl) .nil), ⟨(Ext.st hE0 hS16), rfl⟩⟩
      · replace hr := ite_neg hr hg24
        refine WL.skip .nil rfl rfl ?_
        refine WL.skip .nil rfl rfl ?_
        refine WL.skip .nil rfl rfl ?_
        refine WL.skip .nil rfl rfl ?_
        refine WL.skip .nil rfl rfl ?_
        refine WL.pick .nil rfl rfl rfl rfl rfl ?_
        refine WL.move .nil rfl rfl rfl rfl ?_
        refine WL.skip .nil rfl rfl ?_
        refine WL.skip .nil rfl rfl ?_
        refine WL.skip .nil rfl rfl ?_
        refine WL.skip .nil rfl rfl ?_
        refine WL.skip .nil rfl rfl ?_
        refine WL.pick .nil rfl rfl rfl rfl rfl ?_
        refine WL.assign .nil rfl rfl rfl rfl ?_
        with_reducible refine WL.nil ?_
        with_reducible refine Ex.thn_norm ?_
        with_reducible refine W.ret ?_
        obtain rfl := Option.some.inj hr
        exact ⟨.inr rfl, _, (.cons (.tmp rfl) .nil), ⟨(Ext.st hE0 hS16), rfl⟩⟩
    · replace hr := ite_neg hr hg23
      refine WL.skip .nil rfl rfl ?_
      refine WL.skip .nil rfl rfl ?_
      refine WL.skip .nil rfl rfl ?_
      refine WL.skip .nil rfl rfl ?_
      refine WL.skip .nil rfl rfl ?_
      refine WL.pick .nil rfl rfl rfl rfl rfl ?_
      refine WL.move .nil rfl rfl rfl rfl ?_
      refine WL.skip .nil rfl rfl ?_
      refine WL.skip .nil rfl rfl ?_
      refine WL.skip .nil rfl rfl ?_
      refine WL.skip .nil rfl rfl ?_
      refine WL.skip .nil rfl rfl ?_
      refine WL.pick .nil rfl rfl rfl rfl rfl ?_
      refine WL.move .nil rfl rfl rfl rfl ?_
      refine WL.skip .nil rfl rfl ?_
      refine WL.skip .nil rfl rfl ?_
      refine WL.skip .nil rfl rfl ?_
      refine WL.skip .nil rfl rfl ?_
      refine WL.skip .nil rfl rfl ?_
      refine WL.pick .nil rfl rfl rfl rfl rfl ?_
      refine WL.assign .nil rfl rfl rfl rfl ?_
      with_reducible refine WL.nil ?_
      with_reducible refine Ex.thn_norm ?_
      with_reducible refine W.ret ?_
      obtain rfl := Option.some.inj hr
      exact ⟨.inr rfl, _, (.cons (.tmp rfl) .nil), ⟨(Ext.st hE0 hS16), rfl⟩⟩
  · replace hr := ite_neg hr hg22
    refine WL.skip .nil rfl rfl ?_
    refine WL.skip .nil rfl rfl ?_
    refine WL.skip .nil rfl rfl ?_
    refine WL.skip .nil rfl rfl ?_
    refine WL.skip .nil rfl rfl ?_
    refine WL.pick .nil rfl rfl rfl rfl rfl ?_
    refine WL.move .nil rfl rfl rfl rfl ?_
    refine WL.skip .nil rfl rfl ?_
    refine WL.skip .nil rfl rfl ?_
    refine WL.skip .nil rfl rfl ?_
    refine WL.skip .nil rfl rfl ?_
    refine WL.skip .nil rfl rfl ?_
    refine WL.pick .nil rfl rfl rfl rfl rfl ?_
    refine WL.move .nil rfl rfl rfl rfl ?_
    refine WL.skip .nil rfl rfl ?_
    refine WL.skip .nil rfl rfl ?_
    refine WL.skip .nil rfl rfl ?_
    refine WL.skip .nil rfl rfl ?_
    refine WL.skip .nil rfl rfl ?_
    refine WL.pick .nil rfl rfl rfl rfl rfl ?_
    refine WL.move .nil rfl rfl rfl rfl ?_
    refine WL.skip .nil rfl rfl ?_
    refine WL.skip .nil rfl rfl ?_
    refine WL.skip .nil rfl rfl ?_
    refine WL.skip .nil rfl rfl ?_
    refine WL.skip .nil rfl rfl ?_
    refine WL.pick .nil rfl rfl rfl rfl rfl ?_
    refine WL.assign .nil rfl rfl rfl rfl ?_
    with_reducible refine WL.nil ?_
    with_reducible refine Ex.thn_norm ?_
    with_reducible refine W.ret ?_
    obtain rfl := Option.some.inj hr
    exact ⟨.inr rfl, _, (.cons (.tmp rfl) .nil), ⟨(Ext.st hE0 hS16), rfl⟩⟩
theorem f_laws_FnWal_k {Δ : Prims} (g : Env Try.prog Δ) {lo n0 : Nat} {H0 F0 : Heap} (hS : St lo n0 H0 F0) {a2 : Option Addr} {cap3 : Nat} {xs1 : (List UInt8)} {a6 : Option Addr} {cap7 : Nat} {xs5 : (List UInt8)} (h4 : SR F0 (.slice a2 xs1.length cap3) xs1) (h8 : SR F0 (.slice a6 xs5.length cap7) xs5) {res : (Bool)} (hr : f_laws_FnWal xs1 xs5 = some res) :
    C Try.prog Δ n0 5 [.slice a2 xs1.length cap3, .slice a6 xs5.length cap7] n0 H0 (fun v n H => St n0 n H F0 ∧ v = .bool res) := by
  refine C.body Try.func5 rfl rfl ?_
  unfold f_laws_FnWal at hr
  have hS0 : St n0 n0 H0 F0 := hS.low (Nat.le_refl _)
  have hE0 := Ext.refl n0 F0
  have hlo0 := hS0.lo
  with_reducible refine W.seq ?_
  with_reducible refine W.region ?_
  refine WL.assign .nil rfl rfl rfl rfl ?_
  with_reducible refine WL.nil ?_
  with_reducible refine Ex.thn_norm ?_
  with_reducible refine W.seq ?_
  with_reducible refine W.seq ?_
  refine W.cut (fun fr n H => ∃ (x17 : Bool) (F : Heap), fr = [(0, .slice a2 xs1.length cap3), (1, .slice a6 xs5.length cap7), (21, .bool x17)] ∧ St n0 n H F ∧ Ext n0 F0 n F ∧ SR F (.slice a2 xs1.length cap3) xs1 ∧ SR F (.slice a6 xs5.length cap7) xs5 ∧ f_laws_FnWal_J0 xs1 xs5 x17 = some res) ?_ ?_
  · with_reducible refine W.region ?_
    refine WL.move .nil rfl rfl rfl rfl ?_
    refine WL.len .nil rfl rfl rfl Try.underlying24 rfl ?_
    refine WL.bin .nil rfl rfl rfl rfl rfl rfl ?_
    refine WL.move .nil rfl rfl rfl rfl ?_
    refine WL.guardD rfl rfl rfl (fun hg192 => ?_) (fun hg192 => ?_)
    · replace hr := ite_pos hr hg192
      refine WL.skip .nil rfl rfl ?_
      refine WL.skip .nil rfl rfl ?_
      refine WL.skip .nil rfl rfl ?_
      refine WL.pick .nil rfl rfl rfl rfl rfl ?_
      with_reducible refine WL.nil ?_
      with_reducible refine Ex.thn_norm ?_
      exact ⟨[(0, .slice a2 xs1.length cap3), (1, .slice a6 xs5.length cap7), (21, .bool true)], (Fr.le_cons rfl (Fr.le_cons rfl (Fr.le_cons rfl Fr.le_nil))), true, F0, rfl, hS0, hE0, h4, h8, hr⟩
    · replace hr := ite_neg hr hg192
      refine WL.move .nil rfl rfl rfl rfl ?_
      refine WL.len .nil rfl rfl rfl Try.underlying24 rfl ?_
      refine WL.bin .nil rfl rfl rfl rfl rfl rfl ?_
      refine WL.pick .nil rfl rfl rfl rfl rfl ?_
      with_reducible refine WL.nil ?_
      with_reducible refine Ex.thn_norm ?_
      exact ⟨[(0, .slice a2 xs1.length cap3), (1, .slice a6 xs5.length cap7), (21, .bool (decide ((60000 : Int) < (xs5.length : Int))))], (Fr.le_cons rfl (Fr.le_cons rfl (Fr.le_cons rfl Fr.le_nil))), (decide ((60000 : Int) < (xs5.length : Int))), F0, rfl, hS0, hE0, h4, h8, hr⟩
  · intro _ n10 H11 hI
    obtain ⟨x17, F12, rfl, hS13, hE14, h15, h16, hr⟩ := hI
    have hlen10 := hE14.le
    have hlon10 := hS13.lo
    unfold f_laws_FnWal_J0 at hr
    refine W.cond rfl (fun hc19 => ?_) (fun hc19 => ?_)
    · replace hr := iteB_pos hr hc19
      with_reducible refine W.seq ?_
      with_reducible refine W.region ?_
      refine WL.assign .nil rfl rfl rfl rfl ?_
      with_reducible refine WL.nil ?_
      with_reducible refine Ex.thn_norm ?_
      with_reducible refine W.ret ?_
      with_reducible refine Ex.thn_ret ?_
      obtain rfl := Option.some.inj hr
      exact ⟨.inr rfl, _, (.cons (.tmp rfl) .nil), ⟨(Ext.st hE14 hS13), rfl⟩⟩
    · replace hr := iteB_neg hr hc19
      with_reducible refine W.skip ?_
      with_reducible refine Ex.thn_norm ?_
      with_reducible refine W.seq ?_
      with_reducible refine W.region ?_
      refine WL.move .nil rfl rfl rfl rfl ?_
      obtain ⟨x20, hx20, hr⟩ := bnd_some hr
      refine GL.callP g.good .nil rfl rfl rfl rfl rfl rfl Try.func12 rfl rfl hS13.lo (f_spec_WalsOf_k  g hS13 h15 hx20) (fun v n21 H22 hn23 hk24 hp25 => ?_)
      obtain ⟨F30, a26, cap27, hX31, hS29, rfl, h28⟩ := hp25
      have hS32 : St n0 n21 H22 F30 := ⟨by have := hS13.lo; omega, hS29.hb, hS29.fh⟩
      have hE33 := (hE14.up (n' := n10) (by omega)).trans hX31
      have hlon21 := hS32.lo
      refine GL.alloc hS32 .nil (zc := [.int .i64 0, .int .i64 0, .int .i64 0, .int .i64 0, .slice none 0 0, .int .i64 0]) rfl rfl rfl info40 rfl rfl rfl (fun H34 hS35 ho36 hk37 => ?_)
      have fo38 := hS32.fnone (Nat.le_refl _)
      have hlon211 := hS35.lo
      have lt39 : n21 < (n21 + 1) := by omega
      refine GL.store hS35 .nil (vc := [.int .i64 x20.Term, .int .i64 x20.Vote, .int .i64 x20.Base, .int .i64 x20.BaseTerm, .slice a26 x20.Log.length cap27, .int .i64 x20.Good]) (c' := [.int .i64 x20.Term, .int .i64 x20.Vote, .int .i64 x20.Base, .int .i64 x20.BaseTerm, .slice a26 x20.Log.length cap27, .int .i64 x20.Good]) rfl rfl rfl info40 rfl rfl rfl rfl ho36 fo38 (Nat.le_of_ble_eq_true rfl) (by omega) (by repeat' (first | exact List.forall_mem_nil _ | refine List.forall_mem_cons.2 ⟨?_, ?_⟩ | rfl)) rfl (fun H40 hS41 ho42 hk43 => ?_)
      with_reducible refine WL.nil ?_
      with_reducible refine Ex.thn_norm ?_
      with_reducible refine W.seq ?_
      with_reducible refine W.region ?_
      refine WL.loadN .nil (l' := [.int .i64 x20.Term, .int .i64 x20.Vote, .int .i64 x20.Base, .int .i64 x20.BaseTerm, .slice a26 x20.Log.length cap27, .int .i64 x20.Good]) rfl rfl rfl Try.underlying40 rfl info40 rfl ho42 rfl rfl ?_
      obtain ⟨x44, hx44, hr⟩ := bnd_some hr
      refine GL.callP g.good .nil rfl rfl rfl rfl rfl rfl Try.func13 rfl rfl hS41.lo (f_impl_WalOf_k  g hS41 h28 hx44) (fun v n45 H46 hn47 hk48 hp49 => ?_)
      obtain ⟨a50, cap51, hS53, rfl, h52⟩ := hp49
      have ho54 := (hk48 _ (by have := lt39; omega)).trans ho42
      have hS55 : St n0 n45 H46 F30 := ⟨by have := hS41.lo; omega, hS53.hb, hS53.fh⟩
      have hlon45 := hS55.lo
      have h56 := OW.lower (lo' := n0) h52 (by omega)
      have ap58 : idOf (.slice a50 x44.1.length cap51) ≠ some n21 := fun hj => by have := (OW.id_lt h52 hj).1; have := lt39; omega
      refine WL.move .nil rfl rfl rfl rfl ?_
      refine WL.extract .nil rfl rfl rfl rfl rfl ?_
      refine WL.extract .nil rfl rfl rfl rfl rfl ?_
      refine WL.assign .nil rfl rfl rfl rfl ?_
      refine WL.assign .nil rfl rfl rfl rfl ?_
      with_reducible refine WL.nil ?_
      with_reducible refine Ex.thn_norm ?_
      with_reducible refine W.seq ?_
      with_reducible refine W.region ?_
      refine WL.move .nil rfl rfl rfl rfl ?_
      obtain ⟨F59, hS60, hle61, h62, hf63⟩ := OW.freeze h56 hS55
      have fo64 := (hf63 _ ap58).trans fo38
      have hE65 : Ext n0 F0 n45 F59 := ⟨Nat.le_trans hE33.le (by omega), hE33.sub.trans hle61, fun i hi => (hf63 i (fun hj => by have := OW.id_lt h56 hj; omega)).trans (hE33.eq i hi)⟩
      obtain ⟨x66, hx66, hr⟩ := bnd_some hr
      refine GL.callP g.good .nil rfl rfl rfl rfl rfl rfl Try.func14 rfl rfl hS60.lo (f_impl_Recover_k  g hS60 h62 hx66) (fun v n67 H68 hn69 hk70 hp71 => ?_)
      obtain ⟨F76, a72, cap73, hX77, hS75, rfl, h74⟩ := hp71
      have ho78 := (hk70 _ (by have := lt39; omega)).trans ho54
      have hS79 : St n0 n67 H68 F76 := ⟨by have := hS60.lo; omega, hS75.hb, hS75.fh⟩
      have fo80 := (hX77.eq _ (by have := lt39; omega)).trans fo64
      have hE81 := (hE65.up (n' := n45) (by omega)).trans hX77
      have hlon67 := hS79.lo
      refine WL.move .nil rfl rfl rfl rfl ?_
      refine WL.extract .nil rfl rfl rfl rfl rfl ?_
      refine WL.extract .nil rfl rfl rfl rfl rfl ?_
      refine GL.alloc hS79 .nil (zc := [.int .i64 0, .int .i64 0, .int .i64 0, .int .i64 0, .slice none 0 0, .int .i64 0]) rfl rfl rfl info40 rfl rfl rfl (fun H82 hS83 ho84 hk85 => ?_)
      have fo86 := hS79.fnone (Nat.le_refl _)
      have ho88 := (hk85 _ (by have := lt39; omega)).trans ho78
      have hlon671 := hS83.lo
      have lt87 : n67 < (n67 + 1) := by omega
      refine GL.store hS83 .nil (vc := [.int .i64 x66.1.Term, .int .i64 x66.1.Vote, .int .i64 x66.1.Base, .int .i64 x66.1.BaseTerm, .slice a72 x66.1.Log.length cap73, .int .i64 x66.1.Good]) (c' := [.int .i64 x66.1.Term, .int .i64 x66.1.Vote, .int .i64 x66.1.Base, .int .i64 x66.1.BaseTerm, .slice a72 x66.1.Log.length cap73, .int .i64 x66.1.Good]) rfl rfl rfl info40 rfl rfl rfl rfl ho84 fo86 (Nat.le_of_ble_eq_true rfl) (by omega) (by repeat' (first | exact List.forall_mem_nil _ | refine List.forall_mem_cons.2 ⟨?_, ?_⟩ | rfl)) rfl (fun H89 hS90 ho91 hk92 => ?_)
      have ho93 := (hk92 _ (by omega)).trans ho88
      refine WL.assign .nil rfl rfl rfl rfl ?_
      with_reducible refine WL.nil ?_
      with_reducible refine Ex.thn_norm ?_
      with_reducible refine W.seq ?_
      with_reducible refine W.region ?_
      refine WL.move .nil rfl rfl rfl rfl ?_
      obtain ⟨x94, hx94, hr⟩ := bnd_some hr
      refine GL.callP g.good .nil rfl rfl rfl rfl rfl rfl Try.func14 rfl rfl hS90.lo (f_impl_Recover_k  g hS90 (((h16.mono hX31.sub).mono hle61).mono hX77.sub) hx94) (fun v n95 H96 hn97 hk98 hp99 => ?_)
      obtain ⟨F104, a100, cap101, hX105, hS103, rfl, h102⟩ := hp99
      have ho106 := (hk98 _ (by have := lt39; omega)).trans ho93
      have ho107 := (hk98 _ (by have := lt87; omega)).trans ho91
      have hS108 : St n0 n95 H96 F104 := ⟨by have := hS90.lo; omega, hS103.hb, hS103.fh⟩
      have fo109 := (hX105.eq _ (by have := lt39; omega)).trans fo80
      have fo110 := (hX105.eq _ (by have := lt87; omega)).trans fo86
      have hE111 := (hE81.up (n' := (n67 + 1)) (by omega)).trans hX105
      have hlon95 := hS108.lo
      refine WL.move .nil rfl rfl rfl rfl ?_
      refine WL.extract .nil rfl rfl rfl rfl rfl ?_
      refine WL.extract .nil rfl rfl rfl rfl rfl ?_
      refine GL.alloc hS108 .nil (zc := [.int .i64 0, .int .i64 0, .int .i64 0, .int .i64 0, .slice none 0 0, .int .i64 0]) rfl rfl rfl info40 rfl rfl rfl (fun H112 hS113 ho114 hk115 => ?_)
      have fo116 := hS108.fnone (Nat.le_refl _)
      have ho118 := (hk115 _ (by have := lt39; omega)).trans ho106
      have ho119 := (hk115 _ (by have := lt87; omega)).trans ho107
      have hlon951 := hS113.lo
      have lt117 : n95 < (n95 + 1) := by omega
      refine GL.store hS113 .nil (vc := [.int .i64 x94.1.Term, .int .i64 x94.1.Vote, .int .i64 x94.1.Base, .int .i64 x94.1.BaseTerm, .slice a100 x94.1.Log.length cap101, .int .i64 x94.1.Good]) (c' := [.int .i64 x94.1.Term, .int .i64 x94.1.Vote, .int .i64 x94.1.Base, .int .i64 x94.1.BaseTerm, .slice a100 x94.1.Log.length cap101, .int .i64 x94.1.Good]) rfl rfl rfl info40 rfl rfl rfl rfl ho114 fo116 (Nat.le_of_ble_eq_true rfl) (by omega) (by repeat' (first | exact List.forall_mem_nil _ | refine List.forall_mem_cons.2 ⟨?_, ?_⟩ | rfl)) rfl (fun H120 hS121 ho122 hk123 => ?_)
      have ho124 := (hk123 _ (by omega)).trans ho118
      have ho125 := (hk123 _ (by omega)).trans ho119
      refine WL.assign .nil rfl rfl rfl rfl ?_
      with_reducible refine WL.nil ?_
      with_reducible refine Ex.thn_norm ?_
      with_reducible refine W.seq ?_
      with_reducible refine W.region ?_
      refine WL.move .nil rfl rfl rfl rfl ?_
      obtain ⟨x126, hx126, hr⟩ := bnd_some hr
      refine GL.callP g.good .nil rfl rfl rfl rfl rfl rfl Try.func15 rfl rfl hS121.lo (f_spec_Recover_k  g hS121 ((((h16.mono hX31.sub).mono hle61).mono hX77.sub).mono hX105.sub) hx126) (fun v n127 H128 hn129 hk130 hp131 => ?_)
      obtain ⟨F136, a132, cap133, hX137, hS135, rfl, h134⟩ := hp131
      have ho138 := (hk130 _ (by have := lt39; omega)).trans ho124
      have ho139 := (hk130 _ (by have := lt87; omega)).trans ho125
      have ho140 := (hk130 _ (by have := lt117; omega)).trans ho122
      have hS141 : St n0 n127 H128 F136 := ⟨by have := hS121.lo; omega, hS135.hb, hS135.fh⟩
      have fo142 := (hX137.eq _ (by have := lt39; omega)).trans fo109
      have fo143 := (hX137.eq _ (by have := lt87; omega)).trans fo110
      have fo144 := (hX137.eq _ (by have := lt117; omega)).trans fo116
      have hE145 := (hE111.up (n' := (n95 + 1)) (by omega)).trans hX137
      have hlon127 := hS141.lo
      refine WL.move .nil rfl rfl rfl rfl ?_
      refine WL.extract .nil rfl rfl rfl rfl rfl ?_
      refine WL.extract .nil rfl rfl rfl rfl rfl ?_
      refine GL.alloc hS141 .nil (zc := [.int .i64 0, .int .i64 0, .int .i64 0, .int .i64 0, .slice none 0 0, .int .i64 0]) rfl rfl rfl info40 rfl rfl rfl (fun H146 hS147 ho148 hk149 => ?_)
      have fo150 := hS141.fnone (Nat.le_refl _)
      have ho152 := (hk149 _ (by have := lt39; omega)).trans ho138
      have ho153 := (hk149 _ (by have := lt87; omega)).trans ho139
      have ho154 := (hk149 _ (by have := lt117; omega)).trans ho140
      have hlon1271 := hS147.lo
      have lt151 : n127 < (n127 + 1) := by omega
      refine GL.store hS147 .nil (vc := [.int .i64 x126.1.Term, .int .i64 x126.1.Vote, .int .i64 x126.1.Base, .int .i64 x126.1.BaseTerm, .slice a132 x126.1.Log.length cap133, .int .i64 x126.1.Good]) (c' := [.int .i64 x126.1.Term, .int .i64 x126.1.Vote, .int .i64 x126.1.Base, .int .i64 x126.1.BaseTerm, .slice a132 x126.1.Log.length cap133, .int .i64 x126.1.Good]) rfl rfl rfl info40 rfl rfl rfl rfl ho148 fo150 (Nat.le_of_ble_eq_true rfl) (by omega) (by repeat' (first | exact List.forall_mem_nil _ | refine List.forall_mem_cons.2 ⟨?_, ?_⟩ | rfl)) rfl (fun H155 hS156 ho157 hk158 => ?_)
      have ho159 := (hk158 _ (by omega)).trans ho152
      have ho160 := (hk158 _ (by omega)).trans ho153
      have ho161 := (hk158 _ (by omega)).trans ho154
      refine WL.assign .nil rfl rfl rfl rfl ?_
      with_reducible refine WL.nil ?_
      with_reducible refine Ex.thn_norm ?_
      with_reducible refine W.seq ?_
      with_reducible refine W.region ?_
      refine WL.move .nil rfl rfl rfl rfl ?_
      refine WL.bin .nil rfl rfl rfl rfl rfl rfl ?_
      refine WL.move .nil rfl rfl rfl rfl ?_
      refine WL.guardD rfl rfl rfl (fun hg162 => ?_) (fun hg162 => ?_)
      · replace hr := ite_pos hr hg162
        refine WL.move .nil rfl rfl rfl rfl ?_
        refine WL.bin .nil rfl rfl rfl rfl rfl rfl ?_
        refine WL.pick .nil rfl rfl rfl rfl rfl ?_
        refine WL.move .nil rfl rfl rfl rfl ?_
        refine WL.guardD rfl rfl rfl (fun hg163 => ?_) (fun hg163 => ?_)
        · replace hr := ite_pos hr hg163
          refine WL.move .nil rfl rfl rfl rfl ?_
          refine WL.bin .nil rfl rfl rfl rfl rfl rfl ?_
          refine WL.pick .nil rfl rfl rfl rfl rfl ?_
          refine WL.move .nil rfl rfl rfl rfl ?_
          refine WL.guardD rfl rfl rfl (fun hg164 => ?_) (fun hg164 => ?_)
          · replace hr := ite_pos hr hg164
            refine WL.loadN .nil (l' := [.int .i64 x66.1.Term, .int .i64 x66.1.Vote, .int .i64 x66.1.Base, .int .i64 x66.1.BaseTerm, .slice a72 x66.1.Log.length cap73, .int .i64 x66.1.Good]) rfl rfl rfl Try.underlying40 rfl info40 rfl ho160 rfl rfl ?_
            refine WL.loadN .nil (l' := [.int .i64 x20.Term, .int .i64 x20.Vote, .int .i64 x20.Base, .int .i64 x20.BaseTerm, .slice a26 x20.Log.length cap27, .int .i64 x20.Good]) rfl rfl rfl Try.underlying40 rfl info40 rfl ho159 rfl rfl ?_
            obtain ⟨x165, hx165, hr⟩ := bnd_some hr
            refine GL.callP g.good .nil rfl rfl rfl rfl rfl rfl Try.func16 rfl rfl hS156.lo (f_laws_sameWal_k  g hS156 ((h74.mono hX105.sub).mono hX137.sub) ((((h28.mono hle61).mono hX77.sub).mono hX105.sub).mono hX137.sub) hx165) (fun v n166 H167 hn168 hk169 hp170 => ?_)
            obtain ⟨hS171, rfl⟩ := hp170
            have ho172 := (hk169 _ (by have := lt39; omega)).trans ho159
            have ho173 := (hk169 _ (by have := lt87; omega)).trans ho160
            have ho174 := (hk169 _ (by have := lt117; omega)).trans ho161
            have ho175 := (hk169 _ (by have := lt151; omega)).trans ho157
            have hS176 : St n0 n166 H167 F136 := ⟨by have := hS156.lo; omega, hS171.hb, hS171.fh⟩
            have hlon166 := hS176.lo
            refine WL.pick .nil rfl rfl rfl rfl rfl ?_
            refine WL.move .nil rfl rfl rfl rfl ?_
            refine WL.guard rfl rfl rfl (fun hg177 => ?_) (fun hg177 => ?_)
            · replace hr := iteB_pos hr hg177
              refine WL.fieldAddr .nil rfl rfl rfl Try.underlying40 rfl info3 rfl rfl ?_
              refine WL.load1 .nil rfl rfl rfl Try.underlying3 rfl rfl ho173 rfl ?_
              refine WL.move .nil rfl rfl rfl rfl ?_
              refine WL.len .nil rfl rfl rfl Try.underlying24 rfl ?_
              refine WL.bin .nil rfl rfl rfl rfl rfl rfl ?_
              refine WL.pick .nil rfl rfl rfl rfl rfl ?_
              refine WL.move .nil rfl rfl rfl rfl ?_
              refine WL.guardD rfl rfl rfl (fun hg178 => ?_) (fun hg178 => ?_)
              · replace hr := ite_pos hr hg178
                refine WL.loadN .nil (l' := [.int .i64 x94.1.Term, .int .i64 x94.1.Vote, .int .i64 x94.1.Base, .int .i64 x94.1.BaseTerm, .slice a100 x94.1.Log.length cap101, .int .i64 x94.1.Good]) rfl rfl rfl Try.underlying40 rfl info40 rfl ho174 rfl rfl ?_
                refine WL.loadN .nil (l' := [.int .i64 x126.1.Term, .int .i64 x126.1.Vote, .int .i64 x126.1.Base, .int .i64 x126.1.BaseTerm, .slice a132 x126.1.Log.length cap133, .int .i64 x126.1.Good]) rfl rfl rfl Try.underlying40 rfl info40 rfl ho175 rfl rfl ?_
                obtain ⟨x179, hx179, hr⟩ := bnd_some hr
                refine GL.callP g.good .nil rfl rfl rfl rfl rfl rfl Try.func16 rfl rfl hS176.lo (f_laws_sameWal_k  g hS176 (h102.mono hX137.sub) h134 hx179) (fun v n180 H181 hn182 hk183 hp184 => ?_)
                obtain ⟨hS185, rfl⟩ := hp184
                have ho186 := (hk183 _ (by have := lt39; omega)).trans ho172
                have ho187 := (hk183 _ (by have := lt87; omega)).trans ho173
                have ho188 := (hk183 _ (by have := lt117; omega)).trans ho174
                have ho189 := (hk183 _ (by have := lt151; omega)).trans ho175
                have hS190 : St n0 n180 H181 F136 := ⟨by have := hS176.lo; omega, hS185.hb, hS185.fh⟩
                have hlon180 := hS190.lo
                refine WL.pick .nil rfl rfl rfl rfl rfl ?_
                refine WL.move .nil rfl rfl rfl rfl ?_
                refine WL.guard rfl rfl rfl (fun hg191 => ?_) (fun hg191 => ?_)
                · replace hr := iteB_pos hr hg191
                  refine WL.fieldAddr .nil rfl rfl rfl Try.underlying40 rfl info3 rfl rfl ?_
                  refine WL.load1 .nil rfl rfl rfl Try.underlying3 rfl rfl ho188 rfl ?_
                  refine WL.fieldAddr .nil rfl rfl rfl Try.underlying40 rfl info3 rfl rfl ?_
                  refine WL.load1 .nil rfl rfl rfl Try.underlying3 rfl rfl ho189 rfl ?_
                  refine WL.bin .nil rfl rfl rfl rfl rfl rfl ?_
                  refine WL.pick .nil rfl rfl rfl rfl rfl ?_
                  refine WL.assign .nil rfl rfl rfl rfl ?_
                  with_reducible refine WL.nil ?_
                  with_reducible refine Ex.thn_norm ?_
                  with_reducible refine W.ret ?_
                  obtain rfl := Option.some.inj hr
                  exact ⟨.inr rfl, _, (.cons (.tmp rfl) .nil), ⟨(Ext.st hE145 hS190), rfl⟩⟩
                · replace hr := iteB_neg hr hg191
                  refine WL.skip .nil rfl rfl ?_
                  refine WL.skip .nil rfl rfl ?_
                  refine WL.skip .nil rfl rfl ?_
                  refine WL.skip .nil rfl rfl ?_
                  refine WL.skip .nil rfl rfl ?_
                  refine WL.pick .nil rfl rfl rfl rfl rfl ?_
                  refine WL.assign .nil rfl rfl rfl rfl ?_
                  with_reducible refine WL.nil ?_
                  with_reducible refine Ex.thn_norm ?_
                  with_reducible refine W.ret ?_
                  obtain rfl := Option.some.inj hr
                  exact ⟨.inr rfl, _, (.cons (.tmp rfl) .nil), ⟨(Ext.st hE145 hS190), rfl⟩⟩
              · replace hr := ite_neg hr hg178
                refine WL.skip .nil rfl rfl ?_
                refine WL.skip .nil rfl rfl ?_
                refine WL.skip .nil rfl rfl ?_
                refine WL.pick .nil rfl rfl rfl rfl rfl ?_
                refine WL.move .nil rfl rfl rfl rfl ?_
                refine WL.skip .nil rfl rfl ?_
                refine WL.skip .nil rfl rfl ?_
                refine WL.skip .nil rfl rfl ?_
                refine WL.skip .nil rfl rfl ?_
                refine WL.skip .nil rfl rfl ?_
                refine WL.pick .nil rfl rfl rfl rfl rfl ?_
                refine WL.assign .nil rfl rfl rfl rfl ?_
                with_reducible refine WL.nil ?_
                with_reducible refine Ex.thn_norm ?_
                with_reducible refine W.ret ?_
                obtain rfl := Option.some.inj hr
                exact ⟨.inr rfl, _, (.cons (.tmp rfl) .nil), ⟨(Ext.st hE145 hS176), rfl⟩⟩
            · replace hr := iteB_neg hr hg177
              refine WL.skip .nil rfl rfl ?_
              refine WL.skip .nil rfl rfl ?_
              refine WL.skip .nil rfl rfl ?_
              refine WL.skip .nil rfl rfl ?_
              refine WL.skip .nil rfl rfl ?_
              refine WL.pick .nil rfl rfl rfl rfl rfl ?_
              refine WL.move .nil rfl rfl rfl rfl ?_
              refine WL.skip .nil rfl rfl ?_
              refine WL.skip .nil rfl rfl ?_
              refine WL.skip .nil rfl rfl ?_
              refine WL.pick .nil rfl rfl rfl rfl rfl ?_
              refine WL.move .nil rfl rfl rfl rfl ?_
              refine WL.skip .nil rfl rfl ?_
              refine WL.skip .nil rfl rfl ?_
              refine WL.skip .nil rfl rfl ?_
              refine WL.skip .nil rfl rfl ?_
              refine WL.skip .nil rfl rfl ?_
              refine WL.pick .nil rfl rfl rfl rfl rfl ?_
              refine WL.assign .nil rfl rfl rfl rfl ?_
              with_reducible refine WL.nil ?_
              with_reducible refine Ex.thn_norm ?_
              with_reducible refine W.ret ?_
              obtain rfl := Option.some.inj hr
              exact ⟨.inr rfl, _, (.cons (.tmp rfl) .nil), ⟨(Ext.st hE145 hS176), rfl⟩⟩
          · replace hr := ite_neg hr hg164
            refine WL.skip .nil rfl rfl ?_
            refine WL.skip .nil rfl rfl ?_
            refine WL.skip .nil rfl rfl ?_
            refine WL.pick .nil rfl rfl rfl rfl rfl ?_
            refine WL.move .nil rfl rfl rfl rfl ?_
            refine WL.skip .nil rfl rfl ?_
            refine WL.skip .nil rfl rfl ?_
            refine WL.skip .nil rfl rfl ?_
            refine WL.skip .nil rfl rfl ?_
            refine WL.skip .nil rfl rfl ?_
            refine WL.pick .nil rfl rfl rfl rfl rfl ?_
            refine WL.move .nil rfl rfl rfl rfl ?_
            refine WL.skip .nil rfl rfl ?_
            refine WL.skip .nil rfl rfl ?_
            refine WL.skip .nil rfl rfl ?_
            refine WL.pick .nil rfl rfl rfl rfl rfl ?_
            refine WL.move .nil rfl rfl rfl rfl ?_
            refine WL.skip .nil rfl rfl ?_
            refine WL.skip .nil rfl rfl ?_
            refine WL.skip .nil rfl rfl ?_
            refine WL.skip .nil rfl rfl ?_
            refine WL.skip .nil rfl rfl ?_
            refine WL.pick .nil rfl rfl rfl rfl rfl ?_
            refine WL.assign .nil rfl rfl rfl rfl ?_
            with_reducible refine WL.nil ?_
            with_reducible refine Ex.thn_norm ?_
            with_reducible refine W.ret ?_
            obtain rfl := Option.some.inj hr
            exact ⟨.inr rfl, _, (.cons (.tmp rfl) .nil), ⟨(Ext.st hE145 hS156), rfl⟩⟩
        · replace hr := ite_neg hr hg163
          refine WL.skip .nil rfl rfl ?_
          refine WL.skip .nil rfl rfl ?_
          refine WL.pick .nil rfl rfl rfl rfl rfl ?_
          refine WL.move .nil rfl rfl rfl rfl ?_
          refine WL.skip .nil rfl rfl ?_
          refine WL.skip .nil rfl rfl ?_
          refine WL.skip .nil rfl rfl ?_
          refine WL.pick .nil rfl rfl rfl rfl rfl ?_
          refine WL.move .nil rfl rfl rfl rfl ?_
          refine WL.skip .nil rfl rfl ?_
          refine WL.skip .nil rfl rfl ?_
          refine WL.skip .nil rfl rfl ?_
          refine WL.skip .nil rfl rfl ?_
          refine WL.skip .nil rfl rfl ?_
          refine WL.pick .nil rfl rfl rfl rfl rfl ?_
          refine WL.move .nil rfl rfl rfl rfl ?_
          refine WL.skip .nil rfl rfl ?_
          refine WL.skip .nil rfl rfl ?_
          refine WL.skip .nil rfl rfl ?_
          refine WL.pick .nil rfl rfl rfl rfl rfl ?_
          refine WL.move .nil rfl rfl rfl rfl ?_
          refine WL.skip .nil rfl rfl ?_
          refine WL.skip .nil rfl rfl ?_
          refine WL.skip .nil rfl rfl ?_
          refine WL.skip .nil rfl rfl ?_
          refine WL.skip .nil rfl rfl ?_
          refine WL.pick .nil rfl rfl rfl rfl rfl ?_
          refine WL.assign .nil rfl rfl rfl rfl ?_
          with_reducible refine WL.nil ?_
          with_reducible refine Ex.thn_norm ?_
          with_reducible refine W.ret ?_
          obtain rfl := Option.some.inj hr
          exact ⟨.inr rfl, _, (.cons (.tmp rfl) .nil), ⟨(Ext.st hE145 hS156), rfl⟩⟩
      · replace hr := ite_neg hr hg162
        refine WL.skip .nil rfl rfl ?_
        refine WL.skip .nil rfl rfl ?_
        refine WL.pick .nil rfl rfl rfl rfl rfl ?_
        refine WL.move .nil rfl rfl rfl rfl ?_
        refine WL.skip .nil rfl rfl ?_
        refine WL.skip .nil rfl rfl ?_
        refine WL.pick .nil rfl rfl rfl rfl rfl ?_
        refine WL.move .nil rfl rfl rfl rfl ?_
        refine WL.skip .nil rfl rfl ?_
        refine WL.skip .nil rfl rfl ?_
        refine WL.skip .nil rfl rfl ?_
        refine WL.pick .nil rfl rfl rfl rfl rfl ?_
        refine WL.move .nil rfl rfl rfl rfl ?_
        refine WL.skip .nil rfl rfl ?_
        refine WL.skip .nil rfl rfl ?_
        refine WL.skip .nil rfl rfl ?_
        refine WL.skip .nil rfl rfl ?_
        refine WL.skip .nil rfl rfl ?_
        refine WL.pick .nil rfl rfl rfl rfl rfl ?_
        refine WL.move .nil rfl rfl rfl rfl ?_
        refine WL.skip .nil rfl rfl ?_
        refine WL.skip .nil rfl rfl ?_
        refine WL.skip .nil rfl rfl ?_
        refine WL.pick .nil rfl rfl rfl rfl rfl ?_
        refine WL.move .nil rfl rfl rfl rfl ?_
        refine WL.skip .nil rfl rfl ?_
        refine WL.skip .nil rfl rfl ?_
        refine WL.skip .nil rfl rfl ?_
        refine WL.skip .nil rfl rfl ?_
        refine WL.skip .nil rfl rfl ?_
        refine WL.pick .nil rfl rfl rfl rfl rfl ?_
        refine WL.assign .nil rfl rfl rfl rfl ?_
        with_reducible refine WL.nil ?_
        with_reducible refine Ex.thn_norm ?_
        with_reducible refine W.ret ?_
        obtain rfl := Option.some.inj hr
        exact ⟨.inr rfl, _, (.cons (.tmp rfl) .nil), ⟨(Ext.st hE145 hS156), rfl⟩⟩
theorem f_spec_l01Put_k {Δ : Prims} (g : Env Try.prog Δ) {lo n0 : Nat} {H0 F0 : Heap} (hS : St lo n0 H0 F0) {x1 : Int} {res : ((List UInt8))} (hr : f_spec_l01Put x1 = some res) :
    C Try.prog Δ n0 120 [.int .i64 x1] n0 H0 (fun v n H => ∃ (ra1 : Option Addr) (rcap2 : Nat), St n0 n H F0 ∧ v = .slice ra1 res.length rcap2 ∧ OW n0 n H F0 (.slice ra1 res.length rcap2) res) := by
  refine C.body Try.func120 rfl rfl ?_
  unfold f_spec_l01Put at hr
  have hS0 : St n0 n0 H0 F0 := hS.low (Nat.le_refl _)
  have hE0 := Ext.refl n0 F0
  have hlo0 := hS0.lo
  with_reducible refine W.seq ?_
  with_reducible refine W.region ?_
  refine WL.assign .nil rfl rfl rfl rfl ?_
  with_reducible refine WL.nil ?_
  with_reducible refine Ex.thn_norm ?_
  with_reducible refine W.seq ?_
  with_reducible refine W.region ?_
  refine GL.lit (cs := []) (xs := ([] : List UInt8)) hS0 .nil rfl rfl rfl Try.underlying24 info5 rfl rfl rfl (by decide) (by decide) rfl rfl rfl rfl rfl RA.nil rfl (fun H2 hS3 hO4 hk5 => ?_)
  have h6 := OW.lower (lo' := n0) hO4 (by omega)
  have hlon01 := hS3.lo
  refine WL.assign .nil rfl rfl rfl rfl ?_
  with_reducible refine WL.nil ?_
  with_reducible refine Ex.thn_norm ?_
  with_reducible refine W.seq ?_
  with_reducible refine W.block ?_
  refine W.loopF (fun k0 fr n H => ∃ (x198 : Int) (a199 : Option Addr) (cap200 : Nat) (xs201 : (List UInt8)) (F : Heap), fr = [(0, .int .i64 x198), (3, .slice a199 xs201.length cap200)] ∧ St n0 n H F ∧ Ext n0 F0 n F ∧ OW n0 n H F (.slice a199 xs201.length cap200) xs201 ∧ f_spec_l01Put_L0 k0 x198 xs201 = some res) BIG (fr0 := [(0, .int .i64 x1), (3, .slice (some ⟨n0, 0, none⟩) ([] : List UInt8).length 0)]) (Fr.le_cons rfl (Fr.le_cons rfl Fr.le_nil)) ?_ ?_ ?_
  · exact ⟨x1, (some ⟨n0, 0, none⟩), 0, ([] : List UInt8), F0, rfl, hS3, (hE0.up (by omega)), h6, hr⟩
  · intro fr n H hI
    obtain ⟨x198, a199, cap200, xs201, F195, hfr, hS196, hE197, h202, hr⟩ := hI
    rw [f_spec_l01Put_L0] at hr
    cases hr
  · intro k0 _ n193 H194 hI
    obtain ⟨x198, a199, cap200, xs201, F195, rfl, hS196, hE197, h202, hr⟩ := hI
    have hlen193 := hE197.le
    have hlon193 := hS196.lo
    rw [f_spec_l01Put_L0] at hr
    with_reducible refine W.seq ?_
    with_reducible refine W.seq ?_
    with_reducible refine W.region ?_
    refine WL.move .nil rfl rfl rfl rfl ?_
    refine WL.bin .nil rfl rfl rfl rfl rfl rfl ?_
    with_reducible refine WL.nil ?_
    with_reducible refine Ex.thn_norm ?_
    refine W.condD rfl (fun hc205 => ?_) (fun hc205 => ?_)
    · replace hr := ite_pos hr hc205
      with_reducible refine W.skip ?_
      with_reducible refine Ex.thn_norm ?_
      with_reducible refine W.block ?_
      with_reducible refine W.seq ?_
      with_reducible refine W.region ?_
      refine WL.move .nil rfl rfl rfl rfl ?_
      refine WL.move .nil rfl rfl rfl rfl ?_
      obtain ⟨hc206, hr⟩ := chk_some hr
      refine WL.remI .nil rfl rfl rfl rfl rfl hc206.1 hc206.2 ?_
      refine WL.convB .nil rfl rfl rfl Try.underlying3 Try.underlying5 rfl ?_
      refine GL.u8or .nil (byteOf (x198 % 128)) (128 : UInt8) rfl rfl rfl rfl rfl ?_
      have hb211 := fun b hb => (OW.id_lt (i := b) h202 hb).2
      refine GL.lit (cs := [u8 ((byteOf (x198 % 128)) ||| (128 : UInt8))]) (xs := ([((byteOf (x198 % 128)) ||| (128 : UInt8))] : List UInt8)) hS196 .nil rfl rfl rfl Try.underlying24 info5 rfl rfl rfl (by decide) (by decide) rfl rfl rfl rfl rfl (RA.cons (cs := [u8 ((byteOf (x198 % 128)) ||| (128 : UInt8))]) (a := (((byteOf (x198 % 128)) ||| (128 : UInt8)) : UInt8)) rfl RA.nil) rfl (fun H207 hS208 hO209 hk210 => ?_)
      have h212 := OW.keep (n' := (n193 + 1)) h202 (by omega) (fun i hi => hk210 i (OW.id_lt h202 hi).2)
      have h213 := OW.lower (lo' := n0) hO209 (by omega)
      have hlon1931 := hS208.lo
      have ap215 : ∀ b, idOf (.slice (some ⟨n193, 0, none⟩) ([((byteOf (x198 % 128)) ||| (128 : UInt8))] : List UInt8).length 1) = some b → idOf (.slice a199 xs201.length cap200) ≠ some b := fun b hj hi => by have := (OW.id_lt hO209 hj).1; have := hb211 b hi; omega
      obtain ⟨hc216, hr⟩ := chk_some hr
      have hb226 := fun b hb => (OW.id_lt (i := b) h212 hb).2
      have hb227 := fun b hb => (OW.id_lt (i := b) h213 hb).2
      refine GL.append (α := UInt8) hS208 .nil rfl rfl rfl Try.underlying24 Try.underlying24 rfl info5 rfl rfl rfl (by decide) rfl rfl h212 (by omega) (by omega) (OW.src h213) hc216 (fun a217 cap218 n219 H220 hS221 hn222 hO223 hk224 hid225 => ?_)
      have h228 := OW.keep h213 hn222 (fun i hi => hk224 i (OW.id_lt h213 hi).2 (fun hj => (fun b h1 h2 => ap215 b h2 h1) _ hj hi))
      have ap230 : ∀ b, idOf (.slice a217 (xs201 ++ ([((byteOf (x198 % 128)) ||| (128 : UInt8))] : List UInt8)).length cap218) = some b → idOf (.slice (some ⟨n193, 0, none⟩) ([((byteOf (x198 % 128)) ||| (128 : UInt8))] : List UInt8).length 1) ≠ some b := fun b hj hi => (hid225 _ hj).elim (fun h => by have := hb227 b hi; omega) (fun h => (fun b h1 h2 => ap215 b h2 h1) _ h hi)
      have hlon219 := hS221.lo
      refine WL.assign .nil rfl rfl rfl rfl ?_
      with_reducible refine WL.nil ?_
      with_reducible refine Ex.thn_norm ?_
      with_reducible refine W.region ?_
      refine WL.move .nil rfl rfl rfl rfl ?_
      obtain ⟨hc231, hr⟩ := chk_some hr
      refine WL.quoI .nil rfl rfl rfl rfl rfl hc231.1 hc231.2.1 hc231.2.2 ?_
      refine WL.assign .nil rfl rfl rfl rfl ?_
      with_reducible refine WL.nil ?_
      with_reducible refine Ex.blk_norm ?_
      with_reducible refine Ex.thn_norm ?_
      exact ⟨[(0, .int .i64 (x198 / 128)), (3, .slice a217 (xs201 ++ ([((byteOf (x198 % 128)) ||| (128 : UInt8))] : List UInt8)).length cap218)], (Fr.le_cons rfl (Fr.le_cons rfl Fr.le_nil)), (x198 / 128), a217, cap218, (xs201 ++ ([((byteOf (x198 % 128)) ||| (128 : UInt8))] : List UInt8)), F195, rfl, hS221, (hE197.up (by omega)), hO223, hr⟩
    · replace hr := ite_neg hr hc205
      with_reducible refine W.exit ?_
      with_reducible refine Ex.thn_ex ?_
      with_reducible refine Ex.thn_ex ?_
      with_reducible refine Ex.blk_here ?_
      with_reducible refine Ex.thn_norm ?_
      with_reducible refine W.seq ?_
      with_reducible refine W.region ?_
      refine WL.move .nil rfl rfl rfl rfl ?_
      refine WL.move .nil rfl rfl rfl rfl ?_
      refine WL.convB .nil rfl rfl rfl Try.underlying3 Try.underlying5 rfl ?_
      have hb236 := fun b hb => (OW.id_lt (i := b) h202 hb).2
      refine GL.lit (cs := [u8 (byteOf x198)]) (xs := ([(byteOf x198)] : List UInt8)) hS196 .nil rfl rfl rfl Try.underlying24 info5 rfl rfl rfl (by decide) (by decide) rfl rfl rfl rfl rfl (RA.cons (cs := [u8 (byteOf x198)]) (a := ((byteOf x198) : UInt8)) rfl RA.nil) rfl (fun H232 hS233 hO234 hk235 => ?_)
      have h237 := OW.keep (n' := (n193 + 1)) h202 (by omega) (fun i hi => hk235 i (OW.id_lt h202 hi).2)
      have h238 := OW.lower (lo' := n0) hO234 (by omega)
      have hlon1931 := hS233.lo
      have ap240 : ∀ b, idOf (.slice (some ⟨n193, 0, none⟩) ([(byteOf x198)] : List UInt8).length 1) = some b → idOf (.slice a199 xs201.length cap200) ≠ some b := fun b hj hi => by have := (OW.id_lt hO234 hj).1; have := hb236 b hi; omega
      obtain ⟨hc241, hr⟩ := chk_some hr
      have hb251 := fun b hb => (OW.id_lt (i := b) h237 hb).2
      have hb252 := fun b hb => (OW.id_lt (i := b) h238 hb).2
      refine GL.append (α := UInt8) hS233 .nil rfl rfl rfl Try.underlying24 Try.underlying24 rfl info5 rfl rfl rfl (by decide) rfl rfl h237 (by omega) (by omega) (OW.src h238) hc241 (fun a242 cap243 n244 H245 hS246 hn247 hO248 hk249 hid250 => ?_)
      have h253 := OW.keep h238 hn247 (fun i hi => hk249 i (OW.id_lt h238 hi).2 (fun hj => (fun b h1 h2 => ap240 b h2 h1) _ hj hi))
      have ap255 : ∀ b, idOf (.slice a242 (xs201 ++ ([(byteOf x198)] : List UInt8)).length cap243) = some b → idOf (.slice (some ⟨n193, 0, none⟩) ([(byteOf x198)] : List UInt8).length 1) ≠ some b := fun b hj hi => (hid250 _ hj).elim (fun h => by have := hb252 b hi; omega) (fun h => (fun b h1 h2 => ap240 b h2 h1) _ h hi)
      have hlon244 := hS246.lo
      refine WL.assign .nil rfl rfl rfl rfl ?_
      with_reducible refine WL.nil ?_
      with_reducible refine Ex.thn_norm ?_
      with_reducible refine W.ret ?_
      obtain rfl := Option.some.inj hr
      exact ⟨.inr rfl, _, (.cons (.tmp rfl) .nil), ⟨a242, cap243, (Ext.st hE197 hS246), rfl, (OW.downSc hE197.sub hO248)⟩⟩
theorem f_spec_l01Frame_k {Δ : Prims} (g : Env Try.prog Δ) {lo n0 : Nat} {H0 F0 : Heap} (hS : St lo n0 H0 F0) {a2 : Option Addr} {cap3 : Nat} {xs1 : (List UInt8)} (h4 : SR F0 (.slice a2 xs1.length cap3) xs1) {res : ((List UInt8))} (hr : f_spec_l01Frame xs1 = some res) :
    C Try.prog Δ n0 91 [.slice a2 xs1.length cap3] n0 H0 (fun v n H => ∃ (ra1 : Option Addr) (rcap2 : Nat), St n0 n H F0 ∧ v = .slice ra1 res.length rcap2 ∧ OW n0 n H F0 (.slice ra1 res.length rcap2) res) := by
  refine C.body Try.func91 rfl rfl ?_
  unfold f_spec_l01Frame at hr
  have hS0 : St n0 n0 H0 F0 := hS.low (Nat.le_refl _)
  have hE0 := Ext.refl n0 F0
  have hlo0 := hS0.lo
  with_reducible refine W.seq ?_
  with_reducible refine W.region ?_
  refine WL.assign .nil rfl rfl rfl rfl ?_
  with_reducible refine WL.nil ?_
  with_reducible refine Ex.thn_norm ?_
  with_reducible refine W.seq ?_
  with_reducible refine W.region ?_
  refine WL.move .nil rfl rfl rfl rfl ?_
  refine WL.len .nil rfl rfl rfl Try.underlying24 rfl ?_
  obtain ⟨x5, hx5, hr⟩ := bnd_some hr
  refine GL.callP g.good .nil rfl rfl rfl rfl rfl rfl Try.func120 rfl rfl hS0.lo (f_spec_l01Put_k  g hS0 hx5) (fun v n6 H7 hn8 hk9 hp10 => ?_)
  obtain ⟨a11, cap12, hS14, rfl, h13⟩ := hp10
  have hS15 : St n0 n6 H7 F0 := ⟨by have := hS0.lo; omega, hS14.hb, hS14.fh⟩
  have hlon6 := hS15.lo
  have h16 := OW.lower (lo' := n0) h13 (by omega)
  refine WL.move .nil rfl rfl rfl rfl ?_
  obtain ⟨hc18, hr⟩ := chk_some hr
  have hb28 := fun b hb => (OW.id_lt (i := b) h16 hb).2
  refine GL.append (α := UInt8) hS15 .nil rfl rfl rfl Try.underlying24 Try.underlying24 rfl info5 rfl rfl rfl (by decide) rfl rfl h16 (by omega) (by omega) (SR.src h4 hS15.fh) hc18 (fun a19 cap20 n21 H22 hS23 hn24 hO25 hk26 hid27 => ?_)
  have hlon21 := hS23.lo
  refine WL.assign .nil rfl rfl rfl rfl ?_
  with_reducible refine WL.nil ?_
  with_reducible refine Ex.thn_norm ?_
  with_reducible refine W.seq ?_
  with_reducible refine W.region ?_
  refine WL.move .nil rfl rfl rfl rfl ?_
  refine WL.move .nil rfl rfl rfl rfl ?_
  obtain ⟨x30, hx30, hr⟩ := bnd_some hr
  have hb36 := fun b hb => (OW.id_lt (i := b) hO25 hb).2
  refine GL.callP g.good .nil rfl rfl rfl rfl rfl rfl Try.func118 rfl rfl hS23.lo (f_spec_l01Crc_k  g hS23 h4 hx30) (fun v n31 H32 hn33 hk34 hp35 => ?_)
  obtain ⟨hS37, rfl⟩ := hp35
  have h38 := OW.keep (n' := n31) hO25 (by omega) (fun i hi => hk34 i (OW.id_lt hO25 hi).2)
  have hS39 : St n0 n31 H32 F0 := ⟨by have := hS23.lo; omega, hS37.hb, hS37.fh⟩
  have hlon31 := hS39.lo
  obtain ⟨x40, hx40, hr⟩ := bnd_some hr
  have hb46 := fun b hb => (OW.id_lt (i := b) h38 hb).2
  refine GL.callP g.good .nil rfl rfl rfl rfl rfl rfl Try.func117 rfl rfl hS39.lo (f_spec_l01Four_k  g hS39 hx40) (fun v n41 H42 hn43 hk44 hp45 => ?_)
  obtain ⟨a47, cap48, hS50, rfl, h49⟩ := hp45
  have h51 := OW.keep (n' := n41) h38 (by omega) (fun i hi => hk44 i (OW.id_lt h38 hi).2)
  have hS52 : St n0 n41 H42 F0 := ⟨by have := hS39.lo; omega, hS50.hb, hS50.fh⟩
  have hlon41 := hS52.lo
  have h53 := OW.lower (lo' := n0) h49 (by omega)
  have ap55 : ∀ b, idOf (.slice a47 x40.length cap48) = some b → idOf (.slice a19 (x5 ++ xs1).length cap20) ≠ some b := fun b hj hi => by have := (OW.id_lt h49 hj).1; have := hb46 b hi; omega
  obtain ⟨hc56, hr⟩ := chk_some hr
  have hb66 := fun b hb => (OW.id_lt (i := b) h51 hb).2
  have hb67 := fun b hb => (OW.id_lt (i := b) h53 hb).2
  refine GL.append (α := UInt8) hS52 .nil rfl rfl rfl Try.underlying24 Try.underlying24 rfl info5 rfl rfl rfl (by decide) rfl rfl h51 (by omega) (by omega) (OW.src h53) hc56 (fun a57 cap58 n59 H60 hS61 hn62 hO63 hk64 hid65 => ?_)
  have h68 := OW.keep h53 hn62 (fun i hi => hk64 i (OW.id_lt h53 hi).2 (fun hj => (fun b h1 h2 => ap55 b h2 h1) _ hj hi))
  have ap70 : ∀ b, idOf (.slice a57 ((x5 ++ xs1) ++ x40).length cap58) = some b → idOf (.slice a47 x40.length cap48) ≠ some b := fun b hj hi => (hid65 _ hj).elim (fun h => by have := hb67 b hi; omega) (fun h => (fun b h1 h2 => ap55 b h2 h1) _ h hi)
  have hlon59 := hS61.lo
  refine WL.assign .nil rfl rfl rfl rfl ?_
  with_reducible refine WL.nil ?_
  with_reducible refine Ex.thn_norm ?_
  with_reducible refine W.ret ?_
  obtain rfl := Option.some.inj hr
  exact ⟨.inr rfl, _, (.cons (.tmp rfl) .nil), ⟨a57, cap58, (Ext.st hE0 hS61), rfl, (OW.downSc hE0.sub hO63)⟩⟩
theorem f_spec_l03Vote_k {Δ : Prims} (g : Env Try.prog Δ) {lo n0 : Nat} {H0 F0 : Heap} (hS : St lo n0 H0 F0) {x1 : Int} {x2 : Int} {res : ((List UInt8))} (hr : f_spec_l03Vote x1 x2 = some res) :
    C Try.prog Δ n0 86 [.int .i64 x1, .int .i64 x2] n0 H0 (fun v n H => ∃ (ra1 : Option Addr) (rcap2 : Nat), St n0 n H F0 ∧ v = .slice ra1 res.length rcap2 ∧ OW n0 n H F0 (.slice ra1 res.length rcap2) res) := by
  refine C.body Try.func86 rfl rfl ?_
  unfold f_spec_l03Vote at hr
  have hS0 : St n0 n0 H0 F0 := hS.low (Nat.le_refl _)
  have hE0 := Ext.refl n0 F0
  have hlo0 := hS0.lo
  with_reducible refine W.seq ?_
  with_reducible refine W.region ?_
  refine WL.assign .nil rfl rfl rfl rfl ?_
  with_reducible refine WL.nil ?_
  with_reducible refine Ex.thn_norm ?_
  with_reducible refine W.seq ?_
  with_reducible refine W.region ?_
  refine GL.lit (cs := [.int .u8 1]) (xs := ([(1 : UInt8)] : List UInt8)) hS0 .nil rfl rfl rfl Try.underlying24 info5 rfl rfl rfl (by decide) (by decide) rfl rfl rfl rfl rfl (RA.cons (cs := [.int .u8 1]) (a := ((1 : UInt8) : UInt8)) rfl RA.nil) rfl (fun H3 hS4 hO5 hk6 => ?_)
  have h7 := OW.lower (lo' := n0) hO5 (by omega)
  have hlon01 := hS4.lo
  refine WL.move .nil rfl rfl rfl rfl ?_
  obtain ⟨x9, hx9, hr⟩ := bnd_some hr
  have hb15 := fun b hb => (OW.id_lt (i := b) h7 hb).2
  refine GL.callP g.good .nil rfl rfl rfl rfl rfl rfl Try.func120 rfl rfl hS4.lo (f_spec_l01Put_k  g hS4 hx9) (fun v n10 H11 hn12 hk13 hp14 => ?_)
  obtain ⟨a16, cap17, hS19, rfl, h18⟩ := hp14
  have h20 := OW.keep (n' := n10) h7 (by omega) (fun i hi => hk13 i (OW.id_lt h7 hi).2)
  have hS21 : St n0 n10 H11 F0 := ⟨by have := hS4.lo; omega, hS19.hb, hS19.fh⟩
  have hlon10 := hS21.lo
  have h22 := OW.lower (lo' := n0) h18 (by omega)
  have ap24 : ∀ b, idOf (.slice a16 x9.length cap17) = some b → idOf (.slice (some ⟨n0, 0, none⟩) ([(1 : UInt8)] : List UInt8).length 1) ≠ some b := fun b hj hi => by have := (OW.id_lt h18 hj).1; have := hb15 b hi; omega
  obtain ⟨hc25, hr⟩ := chk_some hr
  have hb35 := fun b hb => (OW.id_lt (i := b) h20 hb).2
  have hb36 := fun b hb => (OW.id_lt (i := b) h22 hb).2
  refine GL.append (α := UInt8) hS21 .nil rfl rfl rfl Try.underlying24 Try.underlying24 rfl info5 rfl rfl rfl (by decide) rfl rfl h20 (by omega) (by omega) (OW.src h22) hc25 (fun a26 cap27 n28 H29 hS30 hn31 hO32 hk33 hid34 => ?_)
  have h37 := OW.keep h22 hn31 (fun i hi => hk33 i (OW.id_lt h22 hi).2 (fun hj => (fun b h1 h2 => ap24 b h2 h1) _ hj hi))
  have ap39 : ∀ b, idOf (.slice a26 (([(1 : UInt8)] : List UInt8) ++ x9).length cap27) = some b → idOf (.slice a16 x9.length cap17) ≠ some b := fun b hj hi => (hid34 _ hj).elim (fun h => by have := hb36 b hi; omega) (fun h => (fun b h1 h2 => ap24 b h2 h1) _ h hi)
  have hlon28 := hS30.lo
  refine WL.move .nil rfl rfl rfl rfl ?_
  obtain ⟨x40, hx40, hr⟩ := bnd_some hr
  have hb46 := fun b hb => (OW.id_lt (i := b) h37 hb).2
  have hb47 := fun b hb => (OW.id_lt (i := b) hO32 hb).2
  refine GL.callP g.good .nil rfl rfl rfl rfl rfl rfl Try.func120 rfl rfl hS30.lo (f_spec_l01Put_k  g hS30 hx40) (fun v n41 H42 hn43 hk44 hp45 => ?_)
  obtain ⟨a48, cap49, hS51, rfl, h50⟩ := hp45
  have h52 := OW.keep (n' := n41) h37 (by omega) (fun i hi => hk44 i (OW.id_lt h37 hi).2)
  have h53 := OW.keep (n' := n41) hO32 (by omega) (fun i hi => hk44 i (OW.id_lt hO32 hi).2)
  have hS54 : St n0 n41 H42 F0 := ⟨by have := hS30.lo; omega, hS51.hb, hS51.fh⟩
  have hlon41 := hS54.lo
  have h55 := OW.lower (lo' := n0) h50 (by omega)
  have ap57 : ∀ b, idOf (.slice a48 x40.length cap49) = some b → idOf (.slice a16 x9.length cap17) ≠ some b := fun b hj hi => by have := (OW.id_lt h50 hj).1; have := hb46 b hi; omega
  have ap58 : ∀ b, idOf (.slice a48 x40.length cap49) = some b → idOf (.slice a26 (([(1 : UInt8)] : List UInt8) ++ x9).length cap27) ≠ some b := fun b hj hi => by have := (OW.id_lt h50 hj).1; have := hb47 b hi; omega
  obtain ⟨hc59, hr⟩ := chk_some hr
  have hb69 := fun b hb => (OW.id_lt (i := b) h52 hb).2
  have hb70 := fun b hb => (OW.id_lt (i := b) h53 hb).2
  have hb71 := fun b hb => (OW.id_lt (i := b) h55 hb).2
  refine GL.append (α := UInt8) hS54 .nil rfl rfl rfl Try.underlying24 Try.underlying24 rfl info5 rfl rfl rfl (by decide) rfl rfl h53 (by omega) (by omega) (OW.src h55) hc59 (fun a60 cap61 n62 H63 hS64 hn65 hO66 hk67 hid68 => ?_)
  have h72 := OW.keep h52 hn65 (fun i hi => hk67 i (OW.id_lt h52 hi).2 (fun hj => ap39 _ hj hi))
  have h73 := OW.keep h55 hn65 (fun i hi => hk67 i (OW.id_lt h55 hi).2 (fun hj => (fun b h1 h2 => ap58 b h2 h1) _ hj hi))
  have ap75 : ∀ b, idOf (.slice a60 ((([(1 : UInt8)] : List UInt8) ++ x9) ++ x40).length cap61) = some b → idOf (.slice a16 x9.length cap17) ≠ some b := fun b hj hi => (hid68 _ hj).elim (fun h => by have := hb69 b hi; omega) (fun h => ap39 _ h hi)
  have ap76 : ∀ b, idOf (.slice a60 ((([(1 : UInt8)] : List UInt8) ++ x9) ++ x40).length cap61) = some b → idOf (.slice a48 x40.length cap49) ≠ some b := fun b hj hi => (hid68 _ hj).elim (fun h => by have := hb71 b hi; omega) (fun h => (fun b h1 h2 => ap58 b h2 h1) _ h hi)
  have hlon62 := hS64.lo
  obtain ⟨F77, hS78, hle79, h80, hf81⟩ := OW.freeze hO66 hS64
  have h82 := OW.keepF h72 hle79 (fun i hi => (hf81 i (fun hj => ap75 i hj hi)).trans (OW.fnone h72 hi))
  have h83 := OW.keepF h73 hle79 (fun i hi => (hf81 i (fun hj => ap76 i hj hi)).trans (OW.fnone h73 hi))
  have hE84 : Ext n0 F0 n62 F77 := ⟨Nat.le_trans hE0.le (by omega), hE0.sub.trans hle79, fun i hi => (hf81 i (fun hj => by have := OW.id_lt hO66 hj; omega)).trans (hE0.eq i hi)⟩
  obtain ⟨x85, hx85, hr⟩ := bnd_some hr
  have hb91 := fun b hb => (OW.id_lt (i := b) h82 hb).2
  have hb92 := fun b hb => (OW.id_lt (i := b) h83 hb).2
  refine GL.callP g.good .nil rfl rfl rfl rfl rfl rfl Try.func91 rfl rfl hS78.lo (f_spec_l01Frame_k  g hS78 h80 hx85) (fun v n86 H87 hn88 hk89 hp90 => ?_)
  obtain ⟨a93, cap94, hS96, rfl, h95⟩ := hp90
  have h97 := OW.keep (n' := n86) h82 (by omega) (fun i hi => hk89 i (OW.id_lt h82 hi).2)
  have h98 := OW.keep (n' := n86) h83 (by omega) (fun i hi => hk89 i (OW.id_lt h83 hi).2)
  have hS99 : St n0 n86 H87 F77 := ⟨by have := hS78.lo; omega, hS96.hb, hS96.fh⟩
  have hlon86 := hS99.lo
  have h100 := OW.lower (lo' := n0) h95 (by omega)
  have ap102 : ∀ b, idOf (.slice a93 x85.length cap94) = some b → idOf (.slice a16 x9.length cap17) ≠ some b := fun b hj hi => by have := (OW.id_lt h95 hj).1; have := hb91 b hi; omega
  have ap103 : ∀ b, idOf (.slice a93 x85.length cap94) = some b → idOf (.slice a48 x40.length cap49) ≠ some b := fun b hj hi => by have := (OW.id_lt h95 hj).1; have := hb92 b hi; omega
  refine WL.assign .nil rfl rfl rfl rfl ?_
  with_reducible refine WL.nil ?_
  with_reducible refine Ex.thn_norm ?_
  with_reducible refine W.ret ?_
  obtain rfl := Option.some.inj hr
  exact ⟨.inr rfl, _, (.cons (.tmp rfl) .nil), ⟨a93, cap94, (Ext.st hE84 hS99), rfl, (OW.downSc hE84.sub h100)⟩⟩
theorem f_spec_l03Entry_k {Δ : Prims} (g : Env Try.prog Δ) {lo n0 : Nat} {H0 F0 : Heap} (hS : St lo n0 H0 F0) {x1 : GRec} {a2 : Option Addr} {cap3 : Nat} (h4 : SR F0 (.slice a2 x1.Data.length cap3) x1.Data) {res : ((List UInt8))} (hr : f_spec_l03Entry x1 = some res) :
    C Try.prog Δ n0 87 [.agg [.int .i64 x1.Term, .int .i64 x1.Index, .slice a2 x1.Data.length cap3].toArray] n0 H0 (fun v n H => ∃ (ra1 : Option Addr) (rcap2 : Nat), St n0 n H F0 ∧ v = .slice ra1 res.length rcap2 ∧ OW n0 n H F0 (.slice ra1 res.length rcap2) res) := by
  refine C.body Try.func87 rfl rfl ?_
  unfold f_spec_l03Entry at hr
  have hS0 : St n0 n0 H0 F0 := hS.low (Nat.le_refl _)
  have hE0 := Ext.refl n0 F0
  have hlo0 := hS0.lo
  with_reducible refine W.seq ?_
  with_reducible refine W.region ?_
  refine GL.box hS0 .nil (vc := [.int .i64 x1.Term, .int .i64 x1.Index, .slice a2 x1.Data.length cap3]) rfl rfl rfl rfl rfl (by repeat' (first | exact List.forall_mem_nil _ | refine List.forall_mem_cons.2 ⟨?_, ?_⟩ | rfl)) (fun H5 hS6 ho7 hk8 => ?_)
  have fo9 := hS0.fnone (Nat.le_refl _)
  have hlon01 := hS6.lo
  have lt10 : n0 < (n0 + 1) := by omega
  refine WL.assign .nil rfl rfl rfl rfl ?_
  with_reducible refine WL.nil ?_
  with_reducible refine Ex.thn_norm ?_
  with_reducible refine W.seq ?_
  refine W.regionI (fun H => H n0 = some (.row 1 [.int .i64 x1.Term, .int .i64 x1.Index, .slice a2 x1.Data.length cap3])) [0, 1, 2, 3, 5, 6, 4, 7, 8, 9] [(false, false, false), (false, false, false), (false, false, false), (false, false, false), (false, true, false), (false, true, false), (true, false, false), (false, false, false), (true, false, true), (false, false, false)] false rfl (by kernel_rfl) (by kernel_rfl) (by (conv => lhs; simp only [List.map_cons, List.map_nil, List.getD_cons_zero, List.getD_cons_succ]) <;> rfl) ?_
  refine WLI.op (fun h => by cases h) ?_
  refine GL.lit (cs := [.int .u8 2]) (xs := ([(2 : UInt8)] : List UInt8)) hS6 .r rfl rfl rfl Try.underlying24 info5 rfl rfl rfl (by decide) (by decide) rfl rfl rfl rfl rfl (RA.cons (cs := [.int .u8 2]) (a := ((2 : UInt8) : UInt8)) rfl RA.nil) rfl (fun H12 hS13 hO14 hk15 => ?_)
  have ho16 := (hk15 _ (by have := lt10; omega)).trans ho7
  have h17 := OW.lower (lo' := n0) hO14 (by omega)
  have hlon011 := hS13.lo
  have ap19 : idOf (.slice (some ⟨(n0 + 1), 0, none⟩) ([(2 : UInt8)] : List UInt8).length 1) ≠ some n0 := fun hj => by have := (OW.id_lt hO14 hj).1; have := lt10; omega
  with_reducible refine WL.nil ⟨rfl, ?_⟩
  refine WLI.op (fun h => by cases h) ?_
  refine WL.fieldAddr .r rfl rfl rfl Try.underlying37 rfl info3 rfl rfl ?_
  with_reducible refine WL.nil ⟨rfl, ?_⟩
  refine WLI.op (fun h => by cases h) ?_
  refine WL.load1 .r rfl rfl rfl Try.underlying3 rfl rfl ho16 rfl ?_
  with_reducible refine WL.nil ⟨rfl, ?_⟩
  refine WLI.op (fun h => by cases h) ?_
  obtain ⟨x20, hx20, hr⟩ := bnd_some hr
  have hb26 := fun b hb => (OW.id_lt (i := b) h17 hb).2
  refine GL.callP g.good .r rfl rfl rfl rfl rfl rfl Try.func120 rfl rfl (Nat.le_refl _) (f_spec_l01Put_k  g hS13 hx20) (fun v n21 H22 hn23 hk24 hp25 => ?_)
  obtain ⟨a27, cap28, hS30, rfl, h29⟩ := hp25
  have ho31 := (hk24 _ (by have := lt10; omega)).trans ho16
  have h32 := OW.keep (n' := n21) h17 (by omega) (fun i hi => hk24 i (OW.id_lt h17 hi).2)
  have hS33 : St n0 n21 H22 F0 := ⟨by have := hS13.lo; omega, hS30.hb, hS30.fh⟩
  have hlon21 := hS33.lo
  have h34 := OW.lower (lo' := n0) h29 (by omega)
  have ap36 : idOf (.slice a27 x20.length cap28) ≠ some n0 := fun hj => by have := (OW.id_lt h29 hj).1; have := lt10; omega
  have ap37 : ∀ b, idOf (.slice a27 x20.length cap28) = some b → idOf (.slice (some ⟨(n0 + 1), 0, none⟩) ([(2 : UInt8)] : List UInt8).length 1) ≠ some b := fun b hj hi => by have := (OW.id_lt h29 hj).1; have := hb26 b hi; omega
  with_reducible refine WL.nil ⟨rfl, ?_⟩
  refine WLI.late (v := .pointer (some ⟨n0, 1, none⟩)) (fun h => by cases h) rfl rfl (fun H2 hI2 => Step.fieldAddr' rfl Try.underlying37 rfl info3 rfl rfl rfl) ?_
  refine WLI.late (v := .int .i64 x1.Index) (fun h => by cases h) rfl rfl (fun H2 hI2 => Step.load1' rfl Try.underlying3 rfl rfl (hI2.elim (fun e => by rw [e]; exact ho31) (fun h => h)) rfl) ?_
  refine WLI.op (fun h => by cases h) ?_
  obtain ⟨hc38, hr⟩ := chk_some hr
  have hb48 := fun b hb => (OW.id_lt (i := b) h32 hb).2
  have hb49 := fun b hb => (OW.id_lt (i := b) h34 hb).2
  refine GL.append (α := UInt8) hS33 .w rfl rfl rfl Try.underlying24 Try.underlying24 rfl info5 rfl rfl rfl (by decide) rfl rfl h32 (by omega) (by omega) (OW.src h34) hc38 (fun a39 cap40 n41 H42 hS43 hn44 hO45 hk46 hid47 => ?_)
  have ho50 := (hk46 _ (by have := lt10; omega) ap19).trans ho31
  have h51 := OW.keep h34 hn44 (fun i hi => hk46 i (OW.id_lt h34 hi).2 (fun hj => (fun b h1 h2 => ap37 b h2 h1) _ hj hi))
  have ap53 : idOf (.slice a39 (([(2 : UInt8)] : List UInt8) ++ x20).length cap40) ≠ some n0 := fun hj => (hid47 _ hj).elim (fun h => by have := lt10; omega) ap19
  have ap54 : ∀ b, idOf (.slice a39 (([(2 : UInt8)] : List UInt8) ++ x20).length cap40) = some b → idOf (.slice a27 x20.length cap28) ≠ some b := fun b hj hi => (hid47 _ hj).elim (fun h => by have := hb49 b hi; omega) (fun h => (fun b h1 h2 => ap37 b h2 h1) _ h hi)
  have hlon41 := hS43.lo
  with_reducible refine WL.nil ⟨rfl, ?_⟩
  refine WLI.op (fun h => by cases h) ?_
  obtain ⟨x55, hx55, hr⟩ := bnd_some hr
  have hb61 := fun b hb => (OW.id_lt (i := b) h51 hb).2
  have hb62 := fun b hb => (OW.id_lt (i := b) hO45 hb).2
  refine GL.callP g.good .r rfl rfl rfl rfl rfl rfl Try.func120 rfl rfl (Nat.le_refl _) (f_spec_l01Put_k  g hS43 hx55) (fun v n56 H57 hn58 hk59 hp60 => ?_)
  obtain ⟨a63, cap64, hS66, rfl, h65⟩ := hp60
  have ho67 := (hk59 _ (by have := lt10; omega)).trans ho50
  have h68 := OW.keep (n' := n56) h51 (by omega) (fun i hi => hk59 i (OW.id_lt h51 hi).2)
  have h69 := OW.keep (n' := n56) hO45 (by omega) (fun i hi => hk59 i (OW.id_lt hO45 hi).2)
  have hS70 : St n0 n56 H57 F0 := ⟨by have := hS43.lo; omega, hS66.hb, hS66.fh⟩
  have hlon56 := hS70.lo
  have h71 := OW.lower (lo' := n0) h65 (by omega)
  have ap73 : idOf (.slice a63 x55.length cap64) ≠ some n0 := fun hj => by have := (OW.id_lt h65 hj).1; have := lt10; omega
  have ap74 : ∀ b, idOf (.slice a63 x55.length cap64) = some b → idOf (.slice a27 x20.length cap28) ≠ some b := fun b hj hi => by have := (OW.id_lt h65 hj).1; have := hb61 b hi; omega
  have ap75 : ∀ b, idOf (.slice a63 x55.length cap64) = some b → idOf (.slice a39 (([(2 : UInt8)] : List UInt8) ++ x20).length cap40) ≠ some b := fun b hj hi => by have := (OW.id_lt h65 hj).1; have := hb62 b hi; omega
  with_reducible refine WL.nil ⟨rfl, ?_⟩
  refine WLI.op (fun _ => ho67) ?_
  obtain ⟨hc76, hr⟩ := chk_some hr
  have hb86 := fun b hb => (OW.id_lt (i := b) h68 hb).2
  have hb87 := fun b hb => (OW.id_lt (i := b) h69 hb).2
  have hb88 := fun b hb => (OW.id_lt (i := b) h71 hb).2
  refine GL.append (α := UInt8) hS70 .w rfl rfl rfl Try.underlying24 Try.underlying24 rfl info5 rfl rfl rfl (by decide) rfl rfl h69 (by omega) (by omega) (OW.src h71) hc76 (fun a77 cap78 n79 H80 hS81 hn82 hO83 hk84 hid85 => ?_)
  have ho89 := (hk84 _ (by have := lt10; omega) ap53).trans ho67
  have h90 := OW.keep h68 hn82 (fun i hi => hk84 i (OW.id_lt h68 hi).2 (fun hj => ap54 _ hj hi))
  have h91 := OW.keep h71 hn82 (fun i hi => hk84 i (OW.id_lt h71 hi).2 (fun hj => (fun b h1 h2 => ap75 b h2 h1) _ hj hi))
  have ap93 : idOf (.slice a77 ((([(2 : UInt8)] : List UInt8) ++ x20) ++ x55).length cap78) ≠ some n0 := fun hj => (hid85 _ hj).elim (fun h => by have := lt10; omega) ap53
  have ap94 : ∀ b, idOf (.slice a77 ((([(2 : UInt8)] : List UInt8) ++ x20) ++ x55).length cap78) = some b → idOf (.slice a27 x20.length cap28) ≠ some b := fun b hj hi => (hid85 _ hj).elim (fun h => by have := hb86 b hi; omega) (fun h => ap54 _ h hi)
  have ap95 : ∀ b, idOf (.slice a77 ((([(2 : UInt8)] : List UInt8) ++ x20) ++ x55).length cap78) = some b → idOf (.slice a63 x55.length cap64) ≠ some b := fun b hj hi => (hid85 _ hj).elim (fun h => by have := hb88 b hi; omega) (fun h => (fun b h1 h2 => ap75 b h2 h1) _ h hi)
  have hlon79 := hS81.lo
  with_reducible refine WL.nil ⟨rfl, ?_⟩
  refine WLI.op (fun h => by cases h) ?_
  refine WL.assign .r rfl rfl rfl rfl ?_
  with_reducible refine WL.nil ⟨rfl, ?_⟩
  refine WLI.nil (fun h => by cases h) ?_
  with_reducible refine Ex.thn_norm ?_
  with_reducible refine W.seq ?_
  with_reducible refine W.region ?_
  refine WL.move .nil rfl rfl rfl rfl ?_
  refine WL.fieldAddr .nil rfl rfl rfl Try.underlying37 rfl info24 rfl rfl ?_
  refine WL.load1 .nil rfl rfl rfl Try.underlying24 rfl rfl ho89 rfl ?_
  obtain ⟨hc96, hr⟩ := chk_some hr
  have hb106 := fun b hb => (OW.id_lt (i := b) h90 hb).2
  have hb107 := fun b hb => (OW.id_lt (i := b) h91 hb).2
  have hb108 := fun b hb => (OW.id_lt (i := b) hO83 hb).2
  refine GL.append (α := UInt8) hS81 .nil rfl rfl rfl Try.underlying24 Try.underlying24 rfl info5 rfl rfl rfl (by decide) rfl rfl hO83 (by omega) (by omega) (SR.src h4 hS81.fh) hc96 (fun a97 cap98 n99 H100 hS101 hn102 hO103 hk104 hid105 => ?_)
  have ho109 := (hk104 _ (by have := lt10; omega) ap93).trans ho89
  have h110 := OW.keep h90 hn102 (fun i hi => hk104 i (OW.id_lt h90 hi).2 (fun hj => ap94 _ hj hi))
  have h111 := OW.keep h91 hn102 (fun i hi => hk104 i (OW.id_lt h91 hi).2 (fun hj => ap95 _ hj hi))
  have ap113 : idOf (.slice a97 (((([(2 : UInt8)] : List UInt8) ++ x20) ++ x55) ++ x1.Data).length cap98) ≠ some n0 := fun hj => (hid105 _ hj).elim (fun h => by have := lt10; omega) ap93
  have ap114 : ∀ b, idOf (.slice a97 (((([(2 : UInt8)] : List UInt8) ++ x20) ++ x55) ++ x1.Data).length cap98) = some b → idOf (.slice a27 x20.length cap28) ≠ some b := fun b hj hi => (hid105 _ hj).elim (fun h => by have := hb106 b hi; omega) (fun h => ap94 _ h hi)
  have ap115 : ∀ b, idOf (.slice a97 (((([(2 : UInt8)] : List UInt8) ++ x20) ++ x55) ++ x1.Data).length cap98) = some b → idOf (.slice a63 x55.length cap64) ≠ some b := fun b hj hi => (hid105 _ hj).elim (fun h => by have := hb107 b hi; omega) (fun h => ap95 _ h hi)
  have hlon99 := hS101.lo
  obtain ⟨F116, hS117, hle118, h119, hf120⟩ := OW.freeze hO103 hS101
  have fo121 := (hf120 _ ap113).trans fo9
  have h122 := OW.keepF h110 hle118 (fun i hi => (hf120 i (fun hj => ap114 i hj hi)).trans (OW.fnone h110 hi))
  have h123 := OW.keepF h111 hle118 (fun i hi => (hf120 i (fun hj => ap115 i hj hi)).trans (OW.fnone h111 hi))
  have hE124 : Ext n0 F0 n99 F116 := ⟨Nat.le_trans hE0.le (by omega), hE0.sub.trans hle118, fun i hi => (hf120 i (fun hj => by have := OW.id_lt hO103 hj; omega)).trans (hE0.eq i hi)⟩
  obtain ⟨x125, hx125, hr⟩ := bnd_some hr
  have hb131 := fun b hb => (OW.id_lt (i := b) h122 hb).2
  have hb132 := fun b hb => (OW.id_lt (i := b) h123 hb).2
  refine GL.callP g.good .nil rfl rfl rfl rfl rfl rfl Try.func91 rfl rfl hS117.lo (f_spec_l01Frame_k  g hS117 h119 hx125) (fun v n126 H127 hn128 hk129 hp130 => ?_)
  obtain ⟨a133, cap134, hS136, rfl, h135⟩ := hp130
  have ho137 := (hk129 _ (by have := lt10; omega)).trans ho109
  have h138 := OW.keep (n' := n126) h122 (by omega) (fun i hi => hk129 i (OW.id_lt h122 hi).2)
  have h139 := OW.keep (n' := n126) h123 (by omega) (fun i hi => hk129 i (OW.id_lt h123 hi).2)
  have hS140 : St n0 n126 H127 F116 := ⟨by have := hS117.lo; omega, hS136.hb, hS136.fh⟩
  have hlon126 := hS140.lo
  have h141 := OW.lower (lo' := n0) h135 (by omega)
  have ap143 : idOf (.slice a133 x125.length cap134) ≠ some n0 := fun hj => by have := (OW.id_lt h135 hj).1; have := lt10; omega
  have ap144 : ∀ b, idOf (.slice a133 x125.length cap134) = some b → idOf (.slice a27 x20.length cap28) ≠ some b := fun b hj hi => by have := (OW.id_lt h135 hj).1; have := hb131 b hi; omega
  have ap145 : ∀ b, idOf (.slice a133 x125.length cap134) = some b → idOf (.slice a63 x55.length cap64) ≠ some b := fun b hj hi => by have := (OW.id_lt h135 hj).1; have := hb132 b hi; omega
  refine WL.assign .nil rfl rfl rfl rfl ?_
  with_reducible refine WL.nil ?_
  with_reducible refine Ex.thn_norm ?_
  with_reducible refine W.ret ?_
  obtain rfl := Option.some.inj hr
  exact ⟨.inr rfl, _, (.cons (.tmp rfl) .nil), ⟨a133, cap134, (Ext.st hE124 hS140), rfl, (OW.downSc hE124.sub h141)⟩⟩
theorem f_spec_l03Base_k {Δ : Prims} (g : Env Try.prog Δ) {lo n0 : Nat} {H0 F0 : Heap} (hS : St lo n0 H0 F0) {x1 : Int} {x2 : Int} {res : ((List UInt8))} (hr : f_spec_l03Base x1 x2 = some res) :
    C Try.prog Δ n0 88 [.int .i64 x1, .int .i64 x2] n0 H0 (fun v n H => ∃ (ra1 : Option Addr) (rcap2 : Nat), St n0 n H F0 ∧ v = .slice ra1 res.length rcap2 ∧ OW n0 n H F0 (.slice ra1 res.length rcap2) res) := by
  refine C.body Try.func88 rfl rfl ?_
  unfold f_spec_l03Base at hr
  have hS0 : St n0 n0 H0 F0 := hS.low (Nat.le_refl _)
  have hE0 := Ext.refl n0 F0
  have hlo0 := hS0.lo
  with_reducible refine W.seq ?_
  with_reducible refine W.region ?_
  refine WL.assign .nil rfl rfl rfl rfl ?_
  with_reducible refine WL.nil ?_
  with_reducible refine Ex.thn_norm ?_
  with_reducible refine W.seq ?_
  with_reducible refine W.region ?_
  refine GL.lit (cs := [.int .u8 3]) (xs := ([(3 : UInt8)] : List UInt8)) hS0 .nil rfl rfl rfl Try.underlying24 info5 rfl rfl rfl (by decide) (by decide) rfl rfl rfl rfl rfl (RA.cons (cs := [.int .u8 3]) (a := ((3 : UInt8) : UInt8)) rfl RA.nil) rfl (fun H3 hS4 hO5 hk6 => ?_)
  have h7 := OW.lower (lo' := n0) hO5 (by omega)
  have hlon01 := hS4.lo
  refine WL.move .nil rfl rfl rfl rfl ?_
  obtain ⟨x9, hx9, hr⟩ := bnd_some hr
  have hb15 := fun b hb => (OW.id_lt (i := b) h7 hb).2
  refine GL.callP g.good .nil rfl rfl rfl rfl rfl rfl Try.func120 rfl rfl hS4.lo (f_spec_l01Put_k  g hS4 hx9) (fun v n10 H11 hn12 hk13 hp14 => ?_)
  obtain ⟨a16, cap17, hS19, rfl, h18⟩ := hp14
  have h20 := OW.keep (n' := n10) h7 (by omega) (fun i hi => hk13 i (OW.id_lt h7 hi).2)
  have hS21 : St n0 n10 H11 F0 := ⟨by have := hS4.lo; omega, hS19.hb, hS19.fh⟩
  have hlon10 := hS21.lo
  have h22 := OW.lower (lo' := n0) h18 (by omega)
  have ap24 : ∀ b, idOf (.slice a16 x9.length cap17) = some b → idOf (.slice (some ⟨n0, 0, none⟩) ([(3 : UInt8)] : List UInt8).length 1) ≠ some b := fun b hj hi => by have := (OW.id_lt h18 hj).1; have := hb15 b hi; omega
  obtain ⟨hc25, hr⟩ := chk_some hr
  have hb35 := fun b hb => (OW.id_lt (i := b) h20 hb).2
  have hb36 := fun b hb => (OW.id_lt (i := b) h22 hb).2
  refine GL.append (α := UInt8) hS21 .nil rfl rfl rfl Try.underlying24 Try.underlying24 rfl info5 rfl rfl rfl (by decide) rfl rfl h20 (by omega) (by omega) (OW.src h22) hc25 (fun a26 cap27 n28 H29 hS30 hn31 hO32 hk33 hid34 => ?_)
  have h37 := OW.keep h22 hn31 (fun i hi => hk33 i (OW.id_lt h22 hi).2 (fun hj => (fun b h1 h2 => ap24 b h2 h1) _ hj hi))
  have ap39 : ∀ b, idOf (.slice a26 (([(3 : UInt8)] : List UInt8) ++ x9).length cap27) = some b → idOf (.slice a16 x9.length cap17) ≠ some b := fun b hj hi => (hid34 _ hj).elim (fun h => by have := hb36 b hi; omega) (fun h => (fun b h1 h2 => ap24 b h2 h1) _ h hi)
  have hlon28 := hS30.lo
  refine WL.move .nil rfl rfl rfl rfl ?_
  obtain ⟨x40, hx40, hr⟩ := bnd_some hr
  have hb46 := fun b hb => (OW.id_lt (i := b) h37 hb).2
  have hb47 := fun b hb => (OW.id_lt (i := b) hO32 hb).2
  refine GL.callP g.good .nil rfl rfl rfl rfl rfl rfl Try.func120 rfl rfl hS30.lo (f_spec_l01Put_k  g hS30 hx40) (fun v n41 H42 hn43 hk44 hp45 => ?_)
  obtain ⟨a48, cap49, hS51, rfl, h50⟩ := hp45
  have h52 := OW.keep (n' := n41) h37 (by omega) (fun i hi => hk44 i (OW.id_lt h37 hi).2)
  have h53 := OW.keep (n' := n41) hO32 (by omega) (fun i hi => hk44 i (OW.id_lt hO32 hi).2)
  have hS54 : St n0 n41 H42 F0 := ⟨by have := hS30.lo; omega, hS51.hb, hS51.fh⟩
  have hlon41 := hS54.lo
  have h55 := OW.lower (lo' := n0) h50 (by omega)
  have ap57 : ∀ b, idOf (.slice a48 x40.length cap49) = some b → idOf (.slice a16 x9.length cap17) ≠ some b := fun b hj hi => by have := (OW.id_lt h50 hj).1; have := hb46 b hi; omega
  have ap58 : ∀ b, idOf (.slice a48 x40.length cap49) = some b → idOf (.slice a26 (([(3 : UInt8)] : List UInt8) ++ x9).length cap27) ≠ some b := fun b hj hi => by have := (OW.id_lt h50 hj).1; have := hb47 b hi; omega
  obtain ⟨hc59, hr⟩ := chk_some hr
  have hb69 := fun b hb => (OW.id_lt (i := b) h52 hb).2
  have hb70 := fun b hb => (OW.id_lt (i := b) h53 hb).2
  have hb71 := fun b hb => (OW.id_lt (i := b) h55 hb).2
  refine GL.append (α := UInt8) hS54 .nil rfl rfl rfl Try.underlying24 Try.underlying24 rfl info5 rfl rfl rfl (by decide) rfl rfl h53 (by omega) (by omega) (OW.src h55) hc59 (fun a60 cap61 n62 H63 hS64 hn65 hO66 hk67 hid68 => ?_)
  have h72 := OW.keep h52 hn65 (fun i hi => hk67 i (OW.id_lt h52 hi).2 (fun hj => ap39 _ hj hi))
  have h73 := OW.keep h55 hn65 (fun i hi => hk67 i (OW.id_lt h55 hi).2 (fun hj => (fun b h1 h2 => ap58 b h2 h1) _ hj hi))
  have ap75 : ∀ b, idOf (.slice a60 ((([(3 : UInt8)] : List UInt8) ++ x9) ++ x40).length cap61) = some b → idOf (.slice a16 x9.length cap17) ≠ some b := fun b hj hi => (hid68 _ hj).elim (fun h => by have := hb69 b hi; omega) (fun h => ap39 _ h hi)
  have ap76 : ∀ b, idOf (.slice a60 ((([(3 : UInt8)] : List UInt8) ++ x9) ++ x40).length cap61) = some b → idOf (.slice a48 x40.length cap49) ≠ some b := fun b hj hi => (hid68 _ hj).elim (fun h => by have := hb71 b hi; omega) (fun h => (fun b h1 h2 => ap58 b h2 h1) _ h hi)
  have hlon62 := hS64.lo
  obtain ⟨F77, hS78, hle79, h80, hf81⟩ := OW.freeze hO66 hS64
  have h82 := OW.keepF h72 hle79 (fun i hi => (hf81 i (fun hj => ap75 i hj hi)).trans (OW.fnone h72 hi))
  have h83 := OW.keepF h73 hle79 (fun i hi => (hf81 i (fun hj => ap76 i hj hi)).trans (OW.fnone h73 hi))
  have hE84 : Ext n0 F0 n62 F77 := ⟨Nat.le_trans hE0.le (by omega), hE0.sub.trans hle79, fun i hi => (hf81 i (fun hj => by have := OW.id_lt hO66 hj; omega)).trans (hE0.eq i hi)⟩
  obtain ⟨x85, hx85, hr⟩ := bnd_some hr
  have hb91 := fun b hb => (OW.id_lt (i := b) h82 hb).2
  have hb92 := fun b hb => (OW.id_lt (i := b) h83 hb).2
  refine GL.callP g.good .nil rfl rfl rfl rfl rfl rfl Try.func91 rfl rfl hS78.lo (f_spec_l01Frame_k  g hS78 h80 hx85) (fun v n86 H87 hn88 hk89 hp90 => ?_)
  obtain ⟨a93, cap94, hS96, rfl, h95⟩ := hp90
  have h97 := OW.keep (n' := n86) h82 (by omega) (fun i hi => hk89 i (OW.id_lt h82 hi).2)
  have h98 := OW.keep (n' := n86) h83 (by omega) (fun i hi => hk89 i (OW.id_lt h83 hi).2)
  have hS99 : St n0 n86 H87 F77 := ⟨by have := hS78.lo; omega, hS96.hb, hS96.fh⟩
  have hlon86 := hS99.lo
  have h100 := OW.lower (lo' := n0) h95 (by omega)
  have ap102 : ∀ b, idOf (.slice a93 x85.length cap94) = some b → idOf (.slice a16 x9.length cap17) ≠ some b := fun b hj hi => by have := (OW.id_lt h95 hj).1; have := hb91 b hi; omega
  have ap103 : ∀ b, idOf (.slice a93 x85.length cap94) = some b → idOf (.slice a48 x40.length cap49) ≠ some b := fun b hj hi => by have := (OW.id_lt h95 hj).1; have := hb92 b hi; omega
  refine WL.assign .nil rfl rfl rfl rfl ?_
  with_reducible refine WL.nil ?_
  with_reducible refine Ex.thn_norm ?_
  with_reducible refine W.ret ?_
  obtain rfl := Option.some.inj hr
  exact ⟨.inr rfl, _, (.cons (.tmp rfl) .nil), ⟨a93, cap94, (Ext.st hE84 hS99), rfl, (OW.downSc hE84.sub h100)⟩⟩
theorem f_spec_l00Src_chance_k {Δ : Prims} (g : Env Try.prog Δ) {lo n0 : Nat} {H0 F0 : Heap} (hS : St lo n0 H0 F0) {p0 : Nat} {x1 : Gl00Src} {ez0 : Nat} {a2 : Option Addr} {cap3 : Nat} {x8 : Int} (ho5 : H0 p0 = some (.row ez0 [.slice a2 x1.code.length cap3, .int .i64 x1.at_, .int .i64 x1.seed])) (fo6 : F0 p0 = none) (lo7 : lo ≤ p0) (h4 : SR F0 (.slice a2 x1.code.length cap3) x1.code) {res : (Gl00Src × Bool)} (hr : f_spec_l00Src_chance x1 x8 = some res) :
    C Try.prog Δ lo 90 [.pointer (some ⟨p0, 0, none⟩), .int .i64 x8] n0 H0 (fun v n H => ∃ (F : Heap) (ra1 : Option Addr) (rcap2 : Nat), Ext n0 F0 n F ∧ St lo n H F ∧ H p0 = some (.row ez0 [.slice ra1 res.1.code.length rcap2, .int .i64 res.1.at_, .int .i64 res.1.seed]) ∧ v = .bool res.2 ∧ SR F (.slice ra1 res.1.code.length rcap2) res.1.code) := by
  refine C.body Try.func90 rfl rfl ?_
  unfold f_spec_l00Src_chance at hr
  have hS0 : St lo n0 H0 F0 := hS
  have hE0 := Ext.refl n0 F0
  have hlo0 := hS0.lo
  have lt0 := hS0.lt ho5
  with_reducible refine W.seq ?_
  with_reducible refine W.region ?_
  refine WL.assign .nil rfl rfl rfl rfl ?_
  with_reducible refine WL.nil ?_
  with_reducible refine Ex.thn_norm ?_
  with_reducible refine W.seq ?_
  with_reducible refine W.region ?_
  refine WL.move .nil rfl rfl rfl rfl ?_
  refine WL.move .nil rfl rfl rfl rfl ?_
  obtain ⟨x9, hx9, hr⟩ := bnd_some hr
  refine GL.callIO g .nil (fun i => (F0 i).isSome = true ∨ i = p0) rfl rfl rfl rfl rfl rfl Try.func74 rfl rfl (Nat.le_refl _) hS0.lo (f_spec_l00Src_next_k (x1 := ({ code := x1.code, at_ := x1.at_, seed := x1.seed } : Gl00Src)) g (St.vis hS0 (fun i hi => .inl hi)) (vis_get ho5 (.inr (rfl))) fo6 lo7 h4 hx9) (fun v n10 H11 H12 hn13 hp14 hle15 hnew16 hk17 hd18 => ?_)
  obtain ⟨F23, a19, cap20, hX24, hS22, ho25, rfl, h21⟩ := hp14
  have hS26 : St lo n10 H11 _ := ⟨hS22.lo, fun i hi => (hnew16 i (by omega)).trans (hS22.hb i hi), hS22.fh.trans hle15⟩
  have fo27 := (hX24.eq _ (by have := lt0; omega)).trans fo6
  have hE28 := (hE0.up (n' := n0) (by omega)).trans hX24
  have ho29 := hle15 _ _ ho25
  have hlon10 := hS26.lo
  have lt30 := hS26.lt ho29
  refine WL.move .nil rfl rfl rfl rfl ?_
  obtain ⟨hc31, hr⟩ := chk_some hr
  refine WL.subI .nil rfl rfl rfl rfl rfl hc31.1 hc31.2 ?_
  refine WL.bin .nil rfl rfl rfl rfl rfl rfl ?_
  refine WL.assign .nil rfl rfl rfl rfl ?_
  with_reducible refine WL.nil ?_
  with_reducible refine Ex.thn_norm ?_
  with_reducible refine W.ret ?_
  obtain rfl := Option.some.inj hr
  exact ⟨.inr rfl, _, (.cons (.tmp rfl) .nil), ⟨F23, a19, cap20, (hE28.up (by omega)), hS26, ho29, rfl, h21⟩⟩
end Go.Proofs.YtbdebjoagckcpaaAb
