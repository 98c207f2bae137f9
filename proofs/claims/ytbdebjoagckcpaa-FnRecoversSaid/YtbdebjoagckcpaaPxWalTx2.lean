import Derived.Test.YtbdebjoagckcpaaPxWalTx1
import Derived.Test.YtbdebjoagckcpaaPxWalD
import Derived.Test.YtbdebjoagckcpaaAbInfo
import Derived.KernelRfl
set_option linter.all false
set_option maxRecDepth 20000
namespace Go.Proofs.YtbdebjoagckcpaaAb
open Go Go.Proofs
theorem f_spec_l00Src_records_k {Δ : Prims} (g : Env Try.prog Δ) {lo n0 : Nat} {H0 F0 : Heap} (hS : St lo n0 H0 F0) {p0 : Nat} {x1 : Gl00Src} {ez0 : Nat} {a2 : Option Addr} {cap3 : Nat} (ho5 : H0 p0 = some (.row ez0 [.slice a2 x1.code.length cap3, .int .i64 x1.at_, .int .i64 x1.seed])) (fo6 : F0 p0 = none) (lo7 : lo ≤ p0) (h4 : SR F0 (.slice a2 x1.code.length cap3) x1.code) {res : (Gl00Src × (List (List UInt8)))} (hr : f_spec_l00Src_records x1 = some res) :
    C Try.prog Δ lo 49 [.pointer (some ⟨p0, 0, none⟩)] n0 H0 (fun v n H => ∃ (F : Heap) (ra1 : Option Addr) (rcap2 : Nat) (ra4 : Option Addr) (rcap5 : Nat), Ext n0 F0 n F ∧ St lo n H F ∧ H p0 = some (.row ez0 [.slice ra1 res.1.code.length rcap2, .int .i64 res.1.at_, .int .i64 res.1.seed]) ∧ v = .slice ra4 res.2.length rcap5 ∧ SR F (.slice ra1 res.1.code.length rcap2) res.1.code ∧ OW n0 n H F (.slice ra4 res.2.length rcap5) res.2) := by
  refine C.body Try.func49 rfl rfl ?_
  unfold f_spec_l00Src_records at hr
  have hS0 : St lo n0 H0 F0 := hS
  have hE0 := Ext.refl n0 F0
  have hlo0 := hS0.lo
  have lt0 := hS0.lt ho5
  with_reducible refine W.seq ?_
  with_reducible refine W.region ?_
  refine WL.assign .nil rfl rfl rfl rfl ?_
  with_reducible refine WL.nil ?_
  with_reducible refine Ex.thn_norm ?_
  with_reducible refine W.seq ?_
  with_reducible refine W.region ?_
  refine WL.buildL .nil (cells := [.int .i64 0, .int .i64 0, .int .i64 0, .int .i64 0, .slice none 0 0, .int .i64 0]) rfl rfl rfl Try.underlying40 info40 rfl rfl rfl (by simp only [List.mapM_cons, List.mapM_nil, info3, info3, info3, info3, info30, info3]; rfl) rfl (by first | rfl | ((conv => lhs; simp [splice, fillL, cells_int, cells_bool, cells_string, cells_str, cells_slice, cells_ptr, cells_map, cells_func, cells_nilFunc, cells_nilIface, cells_iface, cells_agg, cells_u8]) <;> rfl)) ?_
  refine GL.alloc hS0 .nil (zc := [.int .i64 0, .int .i64 0, .int .i64 0, .int .i64 0, .slice none 0 0, .int .i64 0]) rfl rfl rfl info40 rfl rfl rfl (fun H8 hS9 ho10 hk11 => ?_)
  have fo12 := hS0.fnone (Nat.le_refl _)
  have ho14 := (hk11 _ (by have := lt0; omega)).trans ho5
  have hlon01 := hS9.lo
  have lt13 : n0 < (n0 + 1) := by omega
  refine GL.store hS9 .nil (vc := [.int .i64 0, .int .i64 0, .int .i64 0, .int .i64 0, .slice none 0 0, .int .i64 0]) (c' := [.int .i64 0, .int .i64 0, .int .i64 0, .int .i64 0, .slice none 0 0, .int .i64 0]) rfl rfl rfl info40 rfl rfl rfl rfl ho10 fo12 (Nat.le_of_ble_eq_true rfl) (by omega) (by repeat' (first | exact List.forall_mem_nil _ | refine List.forall_mem_cons.2 ⟨?_, ?_⟩ | rfl)) rfl (fun H15 hS16 ho17 hk18 => ?_)
  have ho19 := (hk18 _ (by omega)).trans ho14
  with_reducible refine WL.nil ?_
  with_reducible refine Ex.thn_norm ?_
  with_reducible refine W.seq ?_
  with_reducible refine W.region ?_
  refine GL.lit (cs := []) (xs := ([] : List (List UInt8))) hS16 .nil rfl rfl rfl Try.underlying48 info24 rfl rfl rfl (by decide) (by decide) rfl rfl rfl rfl rfl RA.nil rfl (fun H20 hS21 hO22 hk23 => ?_)
  have ho24 := (hk23 _ (by have := lt0; omega)).trans ho19
  have ho25 := (hk23 _ (by have := lt13; omega)).trans ho17
  have h26 := OW.lower (lo' := n0) hO22 (by omega)
  have hlon011 := hS21.lo
  have ap28 : idOf (.slice (some ⟨(n0 + 1), 0, none⟩) ([] : List (List UInt8)).length 0) ≠ some p0 := fun hj => by have := (OW.id_lt hO22 hj).1; have := lt0; omega
  have ap29 : idOf (.slice (some ⟨(n0 + 1), 0, none⟩) ([] : List (List UInt8)).length 0) ≠ some n0 := fun hj => by have := (OW.id_lt hO22 hj).1; have := lt13; omega
  refine WL.assign .nil rfl rfl rfl rfl ?_
  with_reducible refine WL.nil ?_
  with_reducible refine Ex.thn_norm ?_
  with_reducible refine W.seq ?_
  with_reducible refine W.seq ?_
  with_reducible refine W.region ?_
  refine WL.move .nil rfl rfl rfl rfl ?_
  refine WL.move .nil rfl rfl rfl rfl ?_
  obtain ⟨x30, hx30, hr⟩ := bnd_some hr
  have hb36 := fun b hb => (OW.id_lt (i := b) h26 hb).2
  refine GL.callP g.good .nil rfl rfl rfl rfl rfl rfl Try.func75 rfl rfl hS21.lo (f_spec_l00Src_size_k (x1 := ({ code := x1.code, at_ := x1.at_, seed := x1.seed } : Gl00Src)) g hS21 ho24 fo6 h4 hx30) (fun v n31 H32 hn33 hk34 hp35 => ?_)
  obtain ⟨hS37, rfl⟩ := hp35
  have ho38 := (hk34 _ (by have := lt0; omega)).trans ho24
  have ho39 := (hk34 _ (by have := lt13; omega)).trans ho25
  have h40 := OW.keep (n' := n31) h26 (by omega) (fun i hi => hk34 i (OW.id_lt h26 hi).2)
  have hS41 : St lo n31 H32 F0 := ⟨by have := hS21.lo; omega, hS37.hb, hS37.fh⟩
  have hlon31 := hS41.lo
  obtain ⟨hc42, hr⟩ := chk_some hr
  refine WL.addI .nil rfl rfl rfl rfl rfl hc42.1 hc42.2 ?_
  obtain ⟨x43, hx43, hr⟩ := bnd_some hr
  have hb53 := fun b hb => (OW.id_lt (i := b) h40 hb).2
  refine GL.callIO g .nil (fun i => (F0 i).isSome = true ∨ i = p0) rfl rfl rfl rfl rfl rfl Try.func74 rfl rfl (Nat.le_refl _) hS41.lo (f_spec_l00Src_next_k (x1 := ({ code := x1.code, at_ := x1.at_, seed := x1.seed } : Gl00Src)) g (St.vis hS41 (fun i hi => .inl hi)) (vis_get ho38 (.inr (rfl))) fo6 lo7 h4 hx43) (fun v n44 H45 H46 hn47 hp48 hle49 hnew50 hk51 hd52 => ?_)
  obtain ⟨F58, a54, cap55, hX59, hS57, ho60, rfl, h56⟩ := hp48
  have hS61 : St lo n44 H45 _ := ⟨hS57.lo, fun i hi => (hnew50 i (by omega)).trans (hS57.hb i hi), hS57.fh.trans hle49⟩
  have ho62 := (hk51 _ (by have := lt13; omega) (fun hs => by
      rcases hs with h | h
      · rw [fo12] at h; cases h
      · omega)).trans ho39
  have h63 := OW.keep (n' := n44) h40 (by omega) (fun i hi => hk51 i (OW.id_lt h40 hi).2 (fun hs => by
      rcases hs with h | h
      · rw [(OW.fnone h40 hi)] at h; cases h
      · exact ap28 (h ▸ hi)))
  have fo64 := (hX59.eq _ (by have := lt0; omega)).trans fo6
  have fo65 := (hX59.eq _ (by have := lt13; omega)).trans fo12
  have h66 := OW.keepF h63 hX59.sub (fun i hi => (hX59.eq i (by have := hb53 i hi; omega)).trans (OW.fnone h63 hi))
  have hE67 := (hE0.up (n' := n31) (by omega)).trans hX59
  have ho68 := hle49 _ _ ho60
  have hlon44 := hS61.lo
  have lt69 := hS61.lt ho68
  have lt70 := hS61.lt ho62
  refine WL.assign .nil rfl rfl rfl rfl ?_
  with_reducible refine WL.nil ?_
  with_reducible refine Ex.thn_norm ?_
  with_reducible refine W.block ?_
  refine W.loopF (fun k0 fr n H => ∃ (a4285 : Option Addr) (cap4286 : Nat) (xs4287 : (List (List UInt8))) (x4290 : Int) (x4291 : Int) (x4292 : Int) (x4293 : Int) (x4294 : Int) (a4295 : Option Addr) (cap4296 : Nat) (xs4297 : (List GRec)) (x4299 : Int) (a4302 : Option Addr) (cap4303 : Nat) (xs4304 : (List UInt8)) (x4306 : Int) (x4307 : Int) (F : Heap), fr = [(0, .pointer (some ⟨p0, 0, none⟩)), (3, .pointer (some ⟨n0, 0, none⟩)), (4, .slice a4285 xs4287.length cap4286), (5, .int .i64 x4290)] ∧ St lo n H F ∧ Ext n0 F0 n F ∧ H n0 = some (.row 1 [.int .i64 x4291, .int .i64 x4292, .int .i64 x4293, .int .i64 x4294, .slice a4295 xs4297.length cap4296, .int .i64 x4299]) ∧ F n0 = none ∧ H p0 = some (.row ez0 [.slice a4302 xs4304.length cap4303, .int .i64 x4306, .int .i64 x4307]) ∧ F p0 = none ∧ OW n0 n H F (.slice a4285 xs4287.length cap4286) xs4287 ∧ SR F (.slice a4295 xs4297.length cap4296) xs4297 ∧ SR F (.slice a4302 xs4304.length cap4303) xs4304 ∧ idOf (.slice a4285 xs4287.length cap4286) ≠ some n0 ∧ idOf (.slice a4285 xs4287.length cap4286) ≠ some p0 ∧ f_spec_l00Src_records_L0 k0 xs4287 x4290 x4291 x4292 x4293 x4294 xs4297 x4299 xs4304 x4306 x4307 = some res) BIG (fr0 := [(0, .pointer (some ⟨p0, 0, none⟩)), (3, .pointer (some ⟨n0, 0, none⟩)), (4, .slice (some ⟨(n0 + 1), 0, none⟩) ([] : List (List UInt8)).length 0), (5, .int .i64 x43.2)]) (Fr.le_cons rfl (Fr.le_cons rfl (Fr.le_cons rfl (Fr.le_cons rfl Fr.le_nil)))) ?_ ?_ ?_
  · exact ⟨(some ⟨(n0 + 1), 0, none⟩), 0, ([] : List (List UInt8)), x43.2, 0, 0, 0, 0, none, 0, [], 0, a54, cap55, x43.1.code, x43.1.at_, x43.1.seed, F58, rfl, hS61, hE67, ho62, fo65, ho68, fo64, h66, SR.nil, h56, ap29, ap28, hr⟩
  · intro fr n H hI
    obtain ⟨a4285, cap4286, xs4287, x4290, x4291, x4292, x4293, x4294, a4295, cap4296, xs4297, x4299, a4302, cap4303, xs4304, x4306, x4307, F4282, hfr, hS4283, hE4284, ho4300, fo4301, ho4308, fo4309, h4288, h4298, h4305, ap4310, ap4311, hr⟩ := hI
    rw [f_spec_l00Src_records_L0] at hr
    cases hr
  · intro k0 _ n4280 H4281 hI
    obtain ⟨a4285, cap4286, xs4287, x4290, x4291, x4292, x4293, x4294, a4295, cap4296, xs4297, x4299, a4302, cap4303, xs4304, x4306, x4307, F4282, rfl, hS4283, hE4284, ho4300, fo4301, ho4308, fo4309, h4288, h4298, h4305, ap4310, ap4311, hr⟩ := hI
    have lt4312 := hS4283.lt ho4300
    have lt4313 := hS4283.lt ho4308
    have hlen4280 := hE4284.le
    have hlon4280 := hS4283.lo
    rw [f_spec_l00Src_records_L0] at hr
    with_reducible refine W.seq ?_
    with_reducible refine W.seq ?_
    with_reducible refine W.region ?_
    refine WL.move .nil rfl rfl rfl rfl ?_
    refine WL.bin .nil rfl rfl rfl rfl rfl rfl ?_
    with_reducible refine WL.nil ?_
    with_reducible refine Ex.thn_norm ?_
    refine W.condD rfl (fun hc4315 => ?_) (fun hc4315 => ?_)
    · replace hr := ite_pos hr hc4315
      with_reducible refine W.skip ?_
      with_reducible refine Ex.thn_norm ?_
      with_reducible refine W.seq ?_
      with_reducible refine W.block ?_
      with_reducible refine W.seq ?_
      with_reducible refine W.region ?_
      refine WL.fieldAddr .nil rfl rfl rfl Try.underlying40 rfl info3 rfl rfl ?_
      refine WL.load1 .nil rfl rfl rfl Try.underlying3 rfl rfl ho4300 rfl ?_
      refine WL.fieldAddr .nil rfl rfl rfl Try.underlying40 rfl info30 rfl rfl ?_
      refine WL.load1 .nil rfl rfl rfl Try.underlying30 rfl rfl ho4300 rfl ?_
      refine WL.len .nil rfl rfl rfl Try.underlying30 rfl ?_
      obtain ⟨hc5356, hr⟩ := chk_some hr
      refine WL.addI .nil rfl rfl rfl rfl rfl hc5356.1 hc5356.2 ?_
      refine WL.assign .nil rfl rfl rfl rfl ?_
      with_reducible refine WL.nil ?_
      with_reducible refine Ex.thn_norm ?_
      with_reducible refine W.seq ?_
      refine W.regionI (fun H => H n0 = some (.row 1 [.int .i64 x4291, .int .i64 x4292, .int .i64 x4293, .int .i64 x4294, .slice a4295 xs4297.length cap4296, .int .i64 x4299])) [0, 1, 2, 5, 3, 4, 6, 7, 8] [(false, true, false), (false, true, false), (false, false, false), (false, true, false), (true, false, false), (false, true, false), (true, false, true), (false, false, false), (false, false, false)] true rfl (by kernel_rfl) (by kernel_rfl) (by (conv => lhs; simp only [List.map_cons, List.map_nil, List.getD_cons_zero, List.getD_cons_succ]) <;> rfl) ?_
      refine WLI.late (v := .pointer (some ⟨n0, 0, none⟩)) (fun h => by cases h) rfl rfl (fun H2 hI2 => Step.fieldAddr' rfl Try.underlying40 rfl info3 rfl rfl rfl) ?_
      refine WLI.late (v := .int .i64 x4291) (fun h => by cases h) rfl rfl (fun H2 hI2 => Step.load1' rfl Try.underlying3 rfl rfl (hI2.elim (fun e => by rw [e]; exact ho4300) (fun h => h)) rfl) ?_
      refine WLI.op (fun h => by cases h) ?_
      refine WL.move .r rfl rfl rfl rfl ?_
      with_reducible refine WL.nil ⟨rfl, ?_⟩
      refine WLI.late (v := .pointer (some ⟨p0, 0, none⟩)) (fun h => by cases h) rfl rfl (fun H2 hI2 => .move (.inl rfl) rfl) ?_
      refine WLI.op (fun h => by cases h) ?_
      obtain ⟨x5358, hx5358, hr⟩ := bnd_some hr
      have hb5368 := fun b hb => (OW.id_lt (i := b) h4288 hb).2
      refine GL.callIO g .w (fun i => (F4282 i).isSome = true ∨ i = p0) rfl rfl rfl rfl rfl rfl Try.func74 rfl rfl (Nat.le_refl _) hS4283.lo (f_spec_l00Src_next_k (x1 := ({ code := xs4304, at_ := x4306, seed := x4307 } : Gl00Src)) g (St.vis hS4283 (fun i hi => .inl hi)) (vis_get ho4308 (.inr (rfl))) fo4309 lo7 h4305 hx5358) (fun v n5359 H5360 H5361 hn5362 hp5363 hle5364 hnew5365 hk5366 hd5367 => ?_)
      obtain ⟨F5373, a5369, cap5370, hX5374, hS5372, ho5375, rfl, h5371⟩ := hp5363
      have hS5376 : St lo n5359 H5360 _ := ⟨hS5372.lo, fun i hi => (hnew5365 i (by omega)).trans (hS5372.hb i hi), hS5372.fh.trans hle5364⟩
      have ho5377 := (hk5366 _ (by have := lt4312; omega) (fun hs => by
      rcases hs with h | h
      · rw [fo4301] at h; cases h
      · omega)).trans ho4300
      have h5378 := OW.keep (n' := n5359) h4288 (by omega) (fun i hi => hk5366 i (OW.id_lt h4288 hi).2 (fun hs => by
      rcases hs with h | h
      · rw [(OW.fnone h4288 hi)] at h; cases h
      · exact ap4311 (h ▸ hi)))
      have fo5379 := (hX5374.eq _ (by have := lt4312; omega)).trans fo4301
      have fo5380 := (hX5374.eq _ (by have := lt4313; omega)).trans fo4309
      have h5381 := OW.keepF h5378 hX5374.sub (fun i hi => (hX5374.eq i (by have := hb5368 i hi; omega)).trans (OW.fnone h5378 hi))
      have hE5382 := (hE4284.up (n' := n4280) (by omega)).trans hX5374
      have ho5383 := hle5364 _ _ ho5375
      have hlon5359 := hS5376.lo
      have lt5384 := hS5376.lt ho5377
      have lt5385 := hS5376.lt ho5383
      with_reducible refine WL.nil ⟨rfl, ?_⟩
      obtain ⟨hc5386, hr⟩ := chk_some hr
      refine WLI.late (v := .int .i64 (x4291 + x5358.2)) (fun h => by cases h) rfl rfl (fun H2 hI2 => Step.addI rfl rfl rfl hc5386.1 hc5386.2) ?_
      refine WLI.op (fun _ => ho5377) ?_
      obtain ⟨x5387, hx5387, hr⟩ := bnd_some hr
      have hb5397 := fun b hb => (OW.id_lt (i := b) h5381 hb).2
      refine GL.callIO g .w (fun i => (F5373 i).isSome = true ∨ i = p0) rfl rfl rfl rfl rfl rfl Try.func74 rfl rfl (Nat.le_refl _) hS5376.lo (f_spec_l00Src_next_k (x1 := ({ code := x5358.1.code, at_ := x5358.1.at_, seed := x5358.1.seed } : Gl00Src)) g (St.vis hS5376 (fun i hi => .inl hi)) (vis_get ho5383 (.inr (rfl))) fo5380 lo7 h5371 hx5387) (fun v n5388 H5389 H5390 hn5391 hp5392 hle5393 hnew5394 hk5395 hd5396 => ?_)
      obtain ⟨F5402, a5398, cap5399, hX5403, hS5401, ho5404, rfl, h5400⟩ := hp5392
      have hS5405 : St lo n5388 H5389 _ := ⟨hS5401.lo, fun i hi => (hnew5394 i (by omega)).trans (hS5401.hb i hi), hS5401.fh.trans hle5393⟩
      have ho5406 := (hk5395 _ (by have := lt5384; omega) (fun hs => by
      rcases hs with h | h
      · rw [fo5379] at h; cases h
      · omega)).trans ho5377
      have h5407 := OW.keep (n' := n5388) h5381 (by omega) (fun i hi => hk5395 i (OW.id_lt h5381 hi).2 (fun hs => by
      rcases hs with h | h
      · rw [(OW.fnone h5381 hi)] at h; cases h
      · exact ap4311 (h ▸ hi)))
      have fo5408 := (hX5403.eq _ (by have := lt5384; omega)).trans fo5379
      have fo5409 := (hX5403.eq _ (by have := lt5385; omega)).trans fo5380
      have h5410 := OW.keepF h5407 hX5403.sub (fun i hi => (hX5403.eq i (by have := hb5397 i hi; omega)).trans (OW.fnone h5407 hi))
      have hE5411 := (hE5382.up (n' := n5359) (by omega)).trans hX5403
      have ho5412 := hle5393 _ _ ho5404
      have hlon5388 := hS5405.lo
      have lt5413 := hS5405.lt ho5406
      have lt5414 := hS5405.lt ho5412
      with_reducible refine WL.nil ⟨rfl, ?_⟩
      refine WLI.op (fun h => by cases h) ?_
      obtain ⟨x5415, hx5415, hr⟩ := bnd_some hr
      have hb5421 := fun b hb => (OW.id_lt (i := b) h5410 hb).2
      refine GL.callP g.good .r rfl rfl rfl rfl rfl rfl Try.func86 rfl rfl (Nat.le_refl _) (f_spec_l03Vote_k  g hS5405 hx5415) (fun v n5416 H5417 hn5418 hk5419 hp5420 => ?_)
      obtain ⟨a5422, cap5423, hS5425, rfl, h5424⟩ := hp5420
      have ho5426 := (hk5419 _ (by have := lt5413; omega)).trans ho5406
      have ho5427 := (hk5419 _ (by have := lt5414; omega)).trans ho5412
      have h5428 := OW.keep (n' := n5416) h5410 (by omega) (fun i hi => hk5419 i (OW.id_lt h5410 hi).2)
      have hS5429 : St lo n5416 H5417 F5402 := ⟨by have := hS5405.lo; omega, hS5425.hb, hS5425.fh⟩
      have hlon5416 := hS5429.lo
      have h5430 := OW.lower (lo' := n0) h5424 (by omega)
      have ap5432 : idOf (.slice a5422 x5415.length cap5423) ≠ some n0 := fun hj => by have := (OW.id_lt h5424 hj).1; have := lt5413; omega
      have ap5433 : idOf (.slice a5422 x5415.length cap5423) ≠ some p0 := fun hj => by have := (OW.id_lt h5424 hj).1; have := lt5414; omega
      have ap5434 : ∀ b, idOf (.slice a5422 x5415.length cap5423) = some b → idOf (.slice a4285 xs4287.length cap4286) ≠ some b := fun b hj hi => by have := (OW.id_lt h5424 hj).1; have := hb5421 b hi; omega
      with_reducible refine WL.nil ⟨rfl, ?_⟩
      refine WLI.op (fun h => by cases h) ?_
      refine WL.assign .r rfl rfl rfl rfl ?_
      with_reducible refine WL.nil ⟨rfl, ?_⟩
      refine WLI.nil (fun _ => ho5426) ?_
      with_reducible refine Ex.thn_norm ?_
      with_reducible refine W.seq ?_
      with_reducible refine W.seq ?_
      with_reducible refine W.region ?_
      refine WL.move .nil rfl rfl rfl rfl ?_
      obtain ⟨x5435, hx5435, hr⟩ := bnd_some hr
      have hb5445 := fun b hb => (OW.id_lt (i := b) h5428 hb).2
      have hb5446 := fun b hb => (OW.id_lt (i := b) h5430 hb).2
      refine GL.callIO g .nil (fun i => (F5402 i).isSome = true ∨ i = p0) rfl rfl rfl rfl rfl rfl Try.func74 rfl rfl (Nat.le_refl _) hS5429.lo (f_spec_l00Src_next_k (x1 := ({ code := x5387.1.code, at_ := x5387.1.at_, seed := x5387.1.seed } : Gl00Src)) g (St.vis hS5429 (fun i hi => .inl hi)) (vis_get ho5427 (.inr (rfl))) fo5409 lo7 h5400 hx5435) (fun v n5436 H5437 H5438 hn5439 hp5440 hle5441 hnew5442 hk5443 hd5444 => ?_)
      obtain ⟨F5451, a5447, cap5448, hX5452, hS5450, ho5453, rfl, h5449⟩ := hp5440
      have hS5454 : St lo n5436 H5437 _ := ⟨hS5450.lo, fun i hi => (hnew5442 i (by omega)).trans (hS5450.hb i hi), hS5450.fh.trans hle5441⟩
      have ho5455 := (hk5443 _ (by have := lt5413; omega) (fun hs => by
      rcases hs with h | h
      · rw [fo5408] at h; cases h
      · omega)).trans ho5426
      have h5456 := OW.keep (n' := n5436) h5428 (by omega) (fun i hi => hk5443 i (OW.id_lt h5428 hi).2 (fun hs => by
      rcases hs with h | h
      · rw [(OW.fnone h5428 hi)] at h; cases h
      · exact ap4311 (h ▸ hi)))
      have h5457 := OW.keep (n' := n5436) h5430 (by omega) (fun i hi => hk5443 i (OW.id_lt h5430 hi).2 (fun hs => by
      rcases hs with h | h
      · rw [(OW.fnone h5430 hi)] at h; cases h
      · exact ap5433 (h ▸ hi)))
      have fo5458 := (hX5452.eq _ (by have := lt5413; omega)).trans fo5408
      have fo5459 := (hX5452.eq _ (by have := lt5414; omega)).trans fo5409
      have h5460 := OW.keepF h5456 hX5452.sub (fun i hi => (hX5452.eq i (by have := hb5445 i hi; omega)).trans (OW.fnone h5456 hi))
      have h5461 := OW.keepF h5457 hX5452.sub (fun i hi => (hX5452.eq i (by have := hb5446 i hi; omega)).trans (OW.fnone h5457 hi))
      have hE5462 := (hE5411.up (n' := n5416) (by omega)).trans hX5452
      have ho5463 := hle5441 _ _ ho5453
      have hlon5436 := hS5454.lo
      have lt5464 := hS5454.lt ho5455
      have lt5465 := hS5454.lt ho5463
      with_reducible refine WL.nil ?_
      with_reducible refine Ex.thn_norm ?_
      refine W.cut (fun fr n H => ∃ (a5848 : Option Addr) (cap5849 : Nat) (xs5850 : (List UInt8)) (a5856 : Option Addr) (cap5857 : Nat) (xs5858 : (List UInt8)) (x5860 : Int) (x5861 : Int) (F : Heap), fr = [(0, .pointer (some ⟨p0, 0, none⟩)), (3, .pointer (some ⟨n0, 0, none⟩)), (4, .slice a4285 xs4287.length cap4286), (5, .int .i64 x4290), (7, .slice a5848 xs5850.length cap5849)] ∧ St lo n H F ∧ Ext n0 F0 n F ∧ H n0 = some (.row 1 [.int .i64 x4291, .int .i64 x4292, .int .i64 x4293, .int .i64 x4294, .slice a4295 xs4297.length cap4296, .int .i64 x4299]) ∧ F n0 = none ∧ H p0 = some (.row ez0 [.slice a5856 xs5858.length cap5857, .int .i64 x5860, .int .i64 x5861]) ∧ F p0 = none ∧ OW n0 n H F (.slice a4285 xs4287.length cap4286) xs4287 ∧ OW n0 n H F (.slice a5848 xs5850.length cap5849) xs5850 ∧ SR F (.slice a4295 xs4297.length cap4296) xs4297 ∧ SR F (.slice a5856 xs5858.length cap5857) xs5858 ∧ idOf (.slice a4285 xs4287.length cap4286) ≠ some n0 ∧ idOf (.slice a4285 xs4287.length cap4286) ≠ some p0 ∧ idOf (.slice a5848 xs5850.length cap5849) ≠ some n0 ∧ idOf (.slice a5848 xs5850.length cap5849) ≠ some p0 ∧ (∀ b, idOf (.slice a5848 xs5850.length cap5849) = some b → idOf (.slice a4285 xs4287.length cap4286) ≠ some b) ∧ f_spec_l00Src_records_J1 x4291 x4292 x4293 x4294 xs4297 x4299 xs4287 x4290 (f_spec_l00Src_records_L0 k0) xs5850 xs5858 x5860 x5861 = some res) ?_ ?_
      · with_reducible refine W.block ?_
        with_reducible refine W.seq ?_
        with_reducible refine W.seq ?_
        with_reducible refine W.region ?_
        refine WL.bin .nil rfl rfl rfl rfl rfl rfl ?_
        refine WL.assign .nil rfl rfl rfl rfl ?_
        with_reducible refine WL.nil ?_
        with_reducible refine Ex.thn_norm ?_
        refine W.cut (fun fr n H => ∃ (x6031 : Bool) (F : Heap), fr = [(0, .pointer (some ⟨p0, 0, none⟩)), (3, .pointer (some ⟨n0, 0, none⟩)), (4, .slice a4285 xs4287.length cap4286), (5, .int .i64 x4290), (6, .int .i64 (x4293 + (xs4297.length : Int))), (7, .slice a5422 x5415.length cap5423), (40, .int .i64 x5435.2), (41, .bool x6031)] ∧ St lo n H F ∧ Ext n0 F0 n F ∧ H n0 = some (.row 1 [.int .i64 x4291, .int .i64 x4292, .int .i64 x4293, .int .i64 x4294, .slice a4295 xs4297.length cap4296, .int .i64 x4299]) ∧ F n0 = none ∧ H p0 = some (.row ez0 [.slice a5447 x5435.1.code.length cap5448, .int .i64 x5435.1.at_, .int .i64 x5435.1.seed]) ∧ F p0 = none ∧ OW n0 n H F (.slice a4285 xs4287.length cap4286) xs4287 ∧ OW n0 n H F (.slice a5422 x5415.length cap5423) x5415 ∧ SR F (.slice a4295 xs4297.length cap4296) xs4297 ∧ SR F (.slice a5447 x5435.1.code.length cap5448) x5435.1.code ∧ idOf (.slice a4285 xs4287.length cap4286) ≠ some n0 ∧ idOf (.slice a4285 xs4287.length cap4286) ≠ some p0 ∧ idOf (.slice a5422 x5415.length cap5423) ≠ some n0 ∧ idOf (.slice a5422 x5415.length cap5423) ≠ some p0 ∧ (∀ b, idOf (.slice a5422 x5415.length cap5423) = some b → idOf (.slice a4285 xs4287.length cap4286) ≠ some b) ∧ f_spec_l00Src_records_J3 x5435 x4293 xs4297 x4291 x4292 x4294 x4299 xs4287 x4290 (f_spec_l00Src_records_L0 k0) x5415 x6031 = some res) ?_ ?_
        · refine W.condD rfl (fun hc6394 => ?_) (fun hc6394 => ?_)
          · replace hr := ite_pos hr hc6394
            with_reducible refine W.skip ?_
            with_reducible refine Ex.thn_norm ?_
            exact ⟨[(0, .pointer (some ⟨p0, 0, none⟩)), (3, .pointer (some ⟨n0, 0, none⟩)), (4, .slice a4285 xs4287.length cap4286), (5, .int .i64 x4290), (6, .int .i64 (x4293 + (xs4297.length : Int))), (7, .slice a5422 x5415.length cap5423), (40, .int .i64 x5435.2), (41, .bool (decide (x5435.2 = 0)))], (Fr.le_cons rfl (Fr.le_cons rfl (Fr.le_cons rfl (Fr.le_cons rfl (Fr.le_cons rfl (Fr.le_cons rfl (Fr.le_cons rfl (Fr.le_cons rfl Fr.le_nil)))))))), (decide (x5435.2 = 0)), F5451, rfl, hS5454, hE5462, ho5455, fo5458, ho5463, fo5459, h5460, h5461, (((h4298.mono hX5374.sub).mono hX5403.sub).mono hX5452.sub), h5449, ap4310, ap4311, ap5432, ap5433, ap5434, hr⟩
          · replace hr := ite_neg hr hc6394
            with_reducible refine W.seq ?_
            with_reducible refine W.region ?_
            refine WL.bin .nil rfl rfl rfl rfl rfl rfl ?_
            refine WL.assign .nil rfl rfl rfl rfl ?_
            with_reducible refine WL.nil ?_
            with_reducible refine Ex.thn_norm ?_
            refine W.condD rfl (fun hc6395 => ?_) (fun hc6395 => ?_)
            · replace hr := ite_pos hr hc6395
              with_reducible refine W.skip ?_
              with_reducible refine Ex.thn_norm ?_
              exact ⟨[(0, .pointer (some ⟨p0, 0, none⟩)), (3, .pointer (some ⟨n0, 0, none⟩)), (4, .slice a4285 xs4287.length cap4286), (5, .int .i64 x4290), (6, .int .i64 (x4293 + (xs4297.length : Int))), (7, .slice a5422 x5415.length cap5423), (40, .int .i64 x5435.2), (41, .bool (decide (x5435.2 = 1)))], (Fr.le_cons rfl (Fr.le_cons rfl (Fr.le_cons rfl (Fr.le_cons rfl (Fr.le_cons rfl (Fr.le_cons rfl (Fr.le_cons rfl (Fr.le_cons rfl Fr.le_nil)))))))), (decide (x5435.2 = 1)), F5451, rfl, hS5454, hE5462, ho5455, fo5458, ho5463, fo5459, h5460, h5461, (((h4298.mono hX5374.sub).mono hX5403.sub).mono hX5452.sub), h5449, ap4310, ap4311, ap5432, ap5433, ap5434, hr⟩
            · replace hr := ite_neg hr hc6395
              with_reducible refine W.seq ?_
              with_reducible refine W.region ?_
              refine WL.bin .nil rfl rfl rfl rfl rfl rfl ?_
              refine WL.assign .nil rfl rfl rfl rfl ?_
              with_reducible refine WL.nil ?_
              with_reducible refine Ex.thn_norm ?_
              refine W.condD rfl (fun hc6396 => ?_) (fun hc6396 => ?_)
              · replace hr := ite_pos hr hc6396
                with_reducible refine W.skip ?_
                with_reducible refine Ex.thn_norm ?_
                exact ⟨[(0, .pointer (some ⟨p0, 0, none⟩)), (3, .pointer (some ⟨n0, 0, none⟩)), (4, .slice a4285 xs4287.length cap4286), (5, .int .i64 x4290), (6, .int .i64 (x4293 + (xs4297.length : Int))), (7, .slice a5422 x5415.length cap5423), (40, .int .i64 x5435.2), (41, .bool (decide (x5435.2 = 2)))], (Fr.le_cons rfl (Fr.le_cons rfl (Fr.le_cons rfl (Fr.le_cons rfl (Fr.le_cons rfl (Fr.le_cons rfl (Fr.le_cons rfl (Fr.le_cons rfl Fr.le_nil)))))))), (decide (x5435.2 = 2)), F5451, rfl, hS5454, hE5462, ho5455, fo5458, ho5463, fo5459, h5460, h5461, (((h4298.mono hX5374.sub).mono hX5403.sub).mono hX5452.sub), h5449, ap4310, ap4311, ap5432, ap5433, ap5434, hr⟩
              · replace hr := ite_neg hr hc6396
                with_reducible refine W.region ?_
                refine WL.bin .nil rfl rfl rfl rfl rfl rfl ?_
                refine WL.assign .nil rfl rfl rfl rfl ?_
                with_reducible refine WL.nil ?_
                with_reducible refine Ex.thn_norm ?_
                exact ⟨[(0, .pointer (some ⟨p0, 0, none⟩)), (3, .pointer (some ⟨n0, 0, none⟩)), (4, .slice a4285 xs4287.length cap4286), (5, .int .i64 x4290), (6, .int .i64 (x4293 + (xs4297.length : Int))), (7, .slice a5422 x5415.length cap5423), (40, .int .i64 x5435.2), (41, .bool (decide (x5435.2 = 3)))], (Fr.le_cons rfl (Fr.le_cons rfl (Fr.le_cons rfl (Fr.le_cons rfl (Fr.le_cons rfl (Fr.le_cons rfl (Fr.le_cons rfl (Fr.le_cons rfl Fr.le_nil)))))))), (decide (x5435.2 = 3)), F5451, rfl, hS5454, hE5462, ho5455, fo5458, ho5463, fo5459, h5460, h5461, (((h4298.mono hX5374.sub).mono hX5403.sub).mono hX5452.sub), h5449, ap4310, ap4311, ap5432, ap5433, ap5434, hr⟩
        · intro _ n6024 H6025 hI
          obtain ⟨x6031, F6026, rfl, hS6027, hE6028, ho6033, fo6034, ho6036, fo6037, h6029, h6030, h6032, h6035, ap6038, ap6039, ap6040, ap6041, ap6042, hr⟩ := hI
          have lt6043 := hS6027.lt ho6033
          have lt6044 := hS6027.lt ho6036
          have hlen6024 := hE6028.le
          have hlon6024 := hS6027.lo
          unfold f_spec_l00Src_records_J3 at hr
          refine W.cond rfl (fun hc6045 => ?_) (fun hc6045 => ?_)
          · replace hr := iteB_pos hr hc6045
            with_reducible refine W.region ?_
            refine WL.move .nil rfl rfl rfl rfl ?_
            obtain ⟨x6046, hx6046, hr⟩ := bnd_some hr
            have hb6056 := fun b hb => (OW.id_lt (i := b) h6029 hb).2
            have hb6057 := fun b hb => (OW.id_lt (i := b) h6030 hb).2
            refine GL.callIO g .nil (fun i => (F6026 i).isSome = true ∨ i = p0) rfl rfl rfl rfl rfl rfl Try.func74 rfl rfl (Nat.le_refl _) hS6027.lo (f_spec_l00Src_next_k (x1 := ({ code := x5435.1.code, at_ := x5435.1.at_, seed := x5435.1.seed } : Gl00Src)) g (St.vis hS6027 (fun i hi => .inl hi)) (vis_get ho6036 (.inr (rfl))) fo6037 lo7 h6035 hx6046) (fun v n6047 H6048 H6049 hn6050 hp6051 hle6052 hnew6053 hk6054 hd6055 => ?_)
            obtain ⟨F6062, a6058, cap6059, hX6063, hS6061, ho6064, rfl, h6060⟩ := hp6051
            have hS6065 : St lo n6047 H6048 _ := ⟨hS6061.lo, fun i hi => (hnew6053 i (by omega)).trans (hS6061.hb i hi), hS6061.fh.trans hle6052⟩
            have ho6066 := (hk6054 _ (by have := lt6043; omega) (fun hs => by
      rcases hs with h | h
      · rw [fo6034] at h; cases h
      · omega)).trans ho6033
            have h6067 := OW.keep (n' := n6047) h6029 (by omega) (fun i hi => hk6054 i (OW.id_lt h6029 hi).2 (fun hs => by
      rcases hs with h | h
      · rw [(OW.fnone h6029 hi)] at h; cases h
      · exact ap6039 (h ▸ hi)))
            have h6068 := OW.keep (n' := n6047) h6030 (by omega) (fun i hi => hk6054 i (OW.id_lt h6030 hi).2 (fun hs => by
      rcases hs with h | h
      · rw [(OW.fnone h6030 hi)] at h; cases h
      · exact ap6041 (h ▸ hi)))
            have fo6069 := (hX6063.eq _ (by have := lt6043; omega)).trans fo6034
            have fo6070 := (hX6063.eq _ (by have := lt6044; omega)).trans fo6037
            have h6071 := OW.keepF h6067 hX6063.sub (fun i hi => (hX6063.eq i (by have := hb6056 i hi; omega)).trans (OW.fnone h6067 hi))
            have h6072 := OW.keepF h6068 hX6063.sub (fun i hi => (hX6063.eq i (by have := hb6057 i hi; omega)).trans (OW.fnone h6068 hi))
            have hE6073 := (hE6028.up (n' := n6024) (by omega)).trans hX6063
            have ho6074 := hle6052 _ _ ho6064
            have hlon6047 := hS6065.lo
            have lt6075 := hS6065.lt ho6066
            have lt6076 := hS6065.lt ho6074
            refine WL.move .nil rfl rfl rfl rfl ?_
            obtain ⟨hc6077, hr⟩ := chk_some hr
            refine WL.addI .nil rfl rfl rfl rfl rfl hc6077.1 hc6077.2 ?_
            refine WL.move .nil rfl rfl rfl rfl ?_
            obtain ⟨x6078, hx6078, hr⟩ := bnd_some hr
            have hb6088 := fun b hb => (OW.id_lt (i := b) h6071 hb).2
            have hb6089 := fun b hb => (OW.id_lt (i := b) h6072 hb).2
            refine GL.callIO g .nil (fun i => (F6062 i).isSome = true ∨ i = p0) rfl rfl rfl rfl rfl rfl Try.func74 rfl rfl (Nat.le_refl _) hS6065.lo (f_spec_l00Src_next_k (x1 := ({ code := x6046.1.code, at_ := x6046.1.at_, seed := x6046.1.seed } : Gl00Src)) g (St.vis hS6065 (fun i hi => .inl hi)) (vis_get ho6074 (.inr (rfl))) fo6070 lo7 h6060 hx6078) (fun v n6079 H6080 H6081 hn6082 hp6083 hle6084 hnew6085 hk6086 hd6087 => ?_)
            obtain ⟨F6094, a6090, cap6091, hX6095, hS6093, ho6096, rfl, h6092⟩ := hp6083
            have hS6097 : St lo n6079 H6080 _ := ⟨hS6093.lo, fun i hi => (hnew6085 i (by omega)).trans (hS6093.hb i hi), hS6093.fh.trans hle6084⟩
            have ho6098 := (hk6086 _ (by have := lt6075; omega) (fun hs => by
      rcases hs with h | h
      · rw [fo6069] at h; cases h
      · omega)).trans ho6066
            have h6099 := OW.keep (n' := n6079) h6071 (by omega) (fun i hi => hk6086 i (OW.id_lt h6071 hi).2 (fun hs => by
      rcases hs with h | h
      · rw [(OW.fnone h6071 hi)] at h; cases h
      · exact ap6039 (h ▸ hi)))
            have h6100 := OW.keep (n' := n6079) h6072 (by omega) (fun i hi => hk6086 i (OW.id_lt h6072 hi).2 (fun hs => by
      rcases hs with h | h
      · rw [(OW.fnone h6072 hi)] at h; cases h
      · exact ap6041 (h ▸ hi)))
            have fo6101 := (hX6095.eq _ (by have := lt6075; omega)).trans fo6069
            have fo6102 := (hX6095.eq _ (by have := lt6076; omega)).trans fo6070
            have h6103 := OW.keepF h6099 hX6095.sub (fun i hi => (hX6095.eq i (by have := hb6088 i hi; omega)).trans (OW.fnone h6099 hi))
            have h6104 := OW.keepF h6100 hX6095.sub (fun i hi => (hX6095.eq i (by have := hb6089 i hi; omega)).trans (OW.fnone h6100 hi))
            have hE6105 := (hE6073.up (n' := n6047) (by omega)).trans hX6095
            have ho6106 := hle6084 _ _ ho6096
            have hlon6079 := hS6097.lo
            have lt6107 := hS6097.lt ho6098
            have lt6108 := hS6097.lt ho6106
            obtain ⟨hc6109, hr⟩ := chk_some hr
            refine WL.quoI .nil rfl rfl rfl rfl rfl hc6109.1 hc6109.2.1 hc6109.2.2 ?_
            refine WL.move .nil rfl rfl rfl rfl ?_
            obtain ⟨x6110, hx6110, hr⟩ := bnd_some hr
            have hb6120 := fun b hb => (OW.id_lt (i := b) h6103 hb).2
            have hb6121 := fun b hb => (OW.id_lt (i := b) h6104 hb).2
            refine GL.callIO g .nil (fun i => (F6094 i).isSome = true ∨ i = p0) rfl rfl rfl rfl rfl rfl Try.func74 rfl rfl (Nat.le_refl _) hS6097.lo (f_spec_l00Src_next_k (x1 := ({ code := x6078.1.code, at_ := x6078.1.at_, seed := x6078.1.seed } : Gl00Src)) g (St.vis hS6097 (fun i hi => .inl hi)) (vis_get ho6106 (.inr (rfl))) fo6102 lo7 h6092 hx6110) (fun v n6111 H6112 H6113 hn6114 hp6115 hle6116 hnew6117 hk6118 hd6119 => ?_)
            obtain ⟨F6126, a6122, cap6123, hX6127, hS6125, ho6128, rfl, h6124⟩ := hp6115
            have hS6129 : St lo n6111 H6112 _ := ⟨hS6125.lo, fun i hi => (hnew6117 i (by omega)).trans (hS6125.hb i hi), hS6125.fh.trans hle6116⟩
            have ho6130 := (hk6118 _ (by have := lt6107; omega) (fun hs => by
      rcases hs with h | h
      · rw [fo6101] at h; cases h
      · omega)).trans ho6098
            have h6131 := OW.keep (n' := n6111) h6103 (by omega) (fun i hi => hk6118 i (OW.id_lt h6103 hi).2 (fun hs => by
      rcases hs with h | h
      · rw [(OW.fnone h6103 hi)] at h; cases h
      · exact ap6039 (h ▸ hi)))
            have h6132 := OW.keep (n' := n6111) h6104 (by omega) (fun i hi => hk6118 i (OW.id_lt h6104 hi).2 (fun hs => by
      rcases hs with h | h
      · rw [(OW.fnone h6104 hi)] at h; cases h
      · exact ap6041 (h ▸ hi)))
            have fo6133 := (hX6127.eq _ (by have := lt6107; omega)).trans fo6101
            have fo6134 := (hX6127.eq _ (by have := lt6108; omega)).trans fo6102
            have h6135 := OW.keepF h6131 hX6127.sub (fun i hi => (hX6127.eq i (by have := hb6120 i hi; omega)).trans (OW.fnone h6131 hi))
            have h6136 := OW.keepF h6132 hX6127.sub (fun i hi => (hX6127.eq i (by have := hb6121 i hi; omega)).trans (OW.fnone h6132 hi))
            have hE6137 := (hE6105.up (n' := n6079) (by omega)).trans hX6127
            have ho6138 := hle6116 _ _ ho6128
            have hlon6111 := hS6129.lo
            have lt6139 := hS6129.lt ho6130
            have lt6140 := hS6129.lt ho6138
            obtain ⟨hc6141, hr⟩ := chk_some hr
            refine WL.mulI .nil rfl rfl rfl rfl rfl hc6141.1 hc6141.2 ?_
            obtain ⟨hc6142, hr⟩ := chk_some hr
            refine WL.subI .nil rfl rfl rfl rfl rfl hc6142.1 hc6142.2 ?_
            refine WL.max2 .nil rfl rfl rfl rfl rfl ?_
            refine WL.move .nil rfl rfl rfl rfl ?_
            obtain ⟨x6143, hx6143, hr⟩ := bnd_some hr
            have hb6153 := fun b hb => (OW.id_lt (i := b) h6135 hb).2
            have hb6154 := fun b hb => (OW.id_lt (i := b) h6136 hb).2
            refine GL.callIO g .nil (fun i => (F6126 i).isSome = true ∨ i = p0) rfl rfl rfl rfl rfl rfl Try.func76 rfl rfl (Nat.le_refl _) hS6129.lo (f_spec_l00Src_bytes_k (x1 := ({ code := x6110.1.code, at_ := x6110.1.at_, seed := x6110.1.seed } : Gl00Src)) g (St.vis hS6129 (fun i hi => .inl hi)) (vis_get ho6138 (.inr (rfl))) fo6134 lo7 h6124 hx6143) (fun v n6144 H6145 H6146 hn6147 hp6148 hle6149 hnew6150 hk6151 hd6152 => ?_)
            obtain ⟨F6162, a6155, cap6156, a6158, cap6159, hX6163, hS6161, ho6164, rfl, h6157, h6160⟩ := hp6148
            have hS6165 : St lo n6144 H6145 _ := ⟨hS6161.lo, fun i hi => (hnew6150 i (by omega)).trans (hS6161.hb i hi), hS6161.fh.trans hle6149⟩
            have ho6166 := (hk6151 _ (by have := lt6139; omega) (fun hs => by
      rcases hs with h | h
      · rw [fo6133] at h; cases h
      · omega)).trans ho6130
            have h6167 := OW.keep (n' := n6144) h6135 (by omega) (fun i hi => hk6151 i (OW.id_lt h6135 hi).2 (fun hs => by
      rcases hs with h | h
      · rw [(OW.fnone h6135 hi)] at h; cases h
      · exact ap6039 (h ▸ hi)))
            have h6168 := OW.keep (n' := n6144) h6136 (by omega) (fun i hi => hk6151 i (OW.id_lt h6136 hi).2 (fun hs => by
      rcases hs with h | h
      · rw [(OW.fnone h6136 hi)] at h; cases h
      · exact ap6041 (h ▸ hi)))
            have fo6169 := (hX6163.eq _ (by have := lt6139; omega)).trans fo6133
            have fo6170 := (hX6163.eq _ (by have := lt6140; omega)).trans fo6134
            have h6171 := OW.keepF h6167 hX6163.sub (fun i hi => (hX6163.eq i (by have := hb6153 i hi; omega)).trans (OW.fnone h6167 hi))
            have h6172 := OW.keepF h6168 hX6163.sub (fun i hi => (hX6163.eq i (by have := hb6154 i hi; omega)).trans (OW.fnone h6168 hi))
            have hE6173 := (hE6137.up (n' := n6111) (by omega)).trans hX6163
            have ho6174 := hle6149 _ _ ho6164
            have h6176 := OW.lower (lo' := n0) (OW.le h6160 hle6149) (by omega)
            have ap6177 : idOf (.slice a6158 x6143.2.length cap6159) ≠ some n0 := fun hj => (OW.after h6160 hd6152 hj).elim (fun h => by have := lt6139; omega) (fun hs => by
      rcases hs with h | h
      · rw [fo6133] at h; cases h
      · omega)
            have ap6178 : ∀ b, idOf (.slice a6158 x6143.2.length cap6159) = some b → idOf (.slice a4285 xs4287.length cap4286) ≠ some b := fun b hj hi => (OW.after h6160 hd6152 hj).elim (fun h => by have := hb6153 b hi; omega) (fun hs => by
      rcases hs with h | h
      · rw [(OW.fnone h6135 hi)] at h; cases h
      · exact ap6039 (h ▸ hi))
            have ap6179 : ∀ b, idOf (.slice a6158 x6143.2.length cap6159) = some b → idOf (.slice a5422 x5415.length cap5423) ≠ some b := fun b hj hi => (OW.after h6160 hd6152 hj).elim (fun h => by have := hb6154 b hi; omega) (fun hs => by
      rcases hs with h | h
      · rw [(OW.fnone h6136 hi)] at h; cases h
      · exact ap6041 (h ▸ hi))
            have ap6180 : idOf (.slice a6158 x6143.2.length cap6159) ≠ some p0 := fun hj => by have := (OW.id_lt h6160 hj).1; have := lt6140; omega
            have hlon6144 := hS6165.lo
            have lt6181 := hS6165.lt ho6166
            have lt6182 := hS6165.lt ho6174
            refine WL.buildL .nil (cells := [.int .i64 x6046.2, .int .i64 (if (((x4293 + (xs4297.length : Int)) + 1) - ((x6078.2 / 3) * x6110.2)) > 1 then (((x4293 + (xs4297.length : Int)) + 1) - ((x6078.2 / 3) * x6110.2)) else 1), .slice a6158 x6143.2.length cap6159]) rfl rfl rfl Try.underlying37 info37 rfl rfl rfl (by simp only [List.mapM_cons, List.mapM_nil, info3, info3, info24]; rfl) rfl (by first | rfl | ((conv => lhs; simp [splice, fillL, cells_int, cells_bool, cells_string, cells_str, cells_slice, cells_ptr, cells_map, cells_func, cells_nilFunc, cells_nilIface, cells_iface, cells_agg, cells_u8]) <;> rfl)) ?_
            obtain ⟨F6183, hS6184, hle6185, h6186, hf6187⟩ := OW.freeze h6176 hS6165
            have fo6188 := (hf6187 _ ap6177).trans fo6169
            have fo6189 := (hf6187 _ ap6180).trans fo6170
            have h6190 := OW.keepF h6171 hle6185 (fun i hi => (hf6187 i (fun hj => ap6178 i hj hi)).trans (OW.fnone h6171 hi))
            have h6191 := OW.keepF h6172 hle6185 (fun i hi => (hf6187 i (fun hj => ap6179 i hj hi)).trans (OW.fnone h6172 hi))
            have hE6192 : Ext n0 F0 n6144 F6183 := ⟨Nat.le_trans hE6173.le (by omega), hE6173.sub.trans hle6185, fun i hi => (hf6187 i (fun hj => by have := OW.id_lt h6176 hj; omega)).trans (hE6173.eq i hi)⟩
            obtain ⟨x6193, hx6193, hr⟩ := bnd_some hr
            have hb6199 := fun b hb => (OW.id_lt (i := b) h6190 hb).2
            have hb6200 := fun b hb => (OW.id_lt (i := b) h6191 hb).2
            refine GL.callP g.good .nil rfl rfl rfl rfl rfl rfl Try.func87 rfl rfl hS6184.lo (f_spec_l03Entry_k  g hS6184 h6186 hx6193) (fun v n6194 H6195 hn6196 hk6197 hp6198 => ?_)
            obtain ⟨a6201, cap6202, hS6204, rfl, h6203⟩ := hp6198
            have ho6205 := (hk6197 _ (by have := lt6181; omega)).trans ho6166
            have ho6206 := (hk6197 _ (by have := lt6182; omega)).trans ho6174
            have h6207 := OW.keep (n' := n6194) h6190 (by omega) (fun i hi => hk6197 i (OW.id_lt h6190 hi).2)
            have h6208 := OW.keep (n' := n6194) h6191 (by omega) (fun i hi => hk6197 i (OW.id_lt h6191 hi).2)
            have hS6209 : St lo n6194 H6195 F6183 := ⟨by have := hS6184.lo; omega, hS6204.hb, hS6204.fh⟩
            have hlon6194 := hS6209.lo
            have h6210 := OW.lower (lo' := n0) h6203 (by omega)
            have ap6212 : idOf (.slice a6201 x6193.length cap6202) ≠ some n0 := fun hj => by have := (OW.id_lt h6203 hj).1; have := lt6181; omega
            have ap6213 : idOf (.slice a6201 x6193.length cap6202) ≠ some p0 := fun hj => by have := (OW.id_lt h6203 hj).1; have := lt6182; omega
            have ap6214 : ∀ b, idOf (.slice a6201 x6193.length cap6202) = some b → idOf (.slice a4285 xs4287.length cap4286) ≠ some b := fun b hj hi => by have := (OW.id_lt h6203 hj).1; have := hb6199 b hi; omega
            have ap6215 : ∀ b, idOf (.slice a6201 x6193.length cap6202) = some b → idOf (.slice a5422 x5415.length cap5423) ≠ some b := fun b hj hi => by have := (OW.id_lt h6203 hj).1; have := hb6200 b hi; omega
            refine WL.assign .nil rfl rfl rfl rfl ?_
            with_reducible refine WL.nil ?_
            with_reducible refine Ex.blk_norm ?_
            with_reducible refine Ex.thn_norm ?_
            exact ⟨[(0, .pointer (some ⟨p0, 0, none⟩)), (3, .pointer (some ⟨n0, 0, none⟩)), (4, .slice a4285 xs4287.length cap4286), (5, .int .i64 x4290), (7, .slice a6201 x6193.length cap6202)], (Fr.le_cons rfl (Fr.le_cons rfl (Fr.le_cons rfl (Fr.le_cons rfl (Fr.le_cons rfl Fr.le_nil))))), a6201, cap6202, x6193, a6155, cap6156, x6143.1.code, x6143.1.at_, x6143.1.seed, F6183, rfl, hS6209, (hE6192.up (by omega)), ho6205, fo6188, ho6206, fo6189, h6207, h6210, (((((h6032.mono hX6063.sub).mono hX6095.sub).mono hX6127.sub).mono hX6163.sub).mono hle6185), (h6157.mono hle6185), ap6038, ap6039, ap6212, ap6213, ap6214, hr⟩
          · replace hr := iteB_neg hr hc6045
            with_reducible refine W.seq ?_
            with_reducible refine W.region ?_
            refine WL.bin .nil rfl rfl rfl rfl rfl rfl ?_
            refine WL.assign .nil rfl rfl rfl rfl ?_
            with_reducible refine WL.nil ?_
            with_reducible refine Ex.thn_norm ?_
            refine W.condD rfl (fun hc6216 => ?_) (fun hc6216 => ?_)
            · replace hr := ite_pos hr hc6216
              with_reducible refine W.seq ?_
              refine W.regionI (fun H => H n0 = some (.row 1 [.int .i64 x4291, .int .i64 x4292, .int .i64 x4293, .int .i64 x4294, .slice a4295 xs4297.length cap4296, .int .i64 x4299])) [0, 1, 2, 3, 4, 5, 6, 7, 8, 9] [(false, true, false), (false, true, false), (false, false, false), (false, false, false), (false, false, false), (false, false, false), (false, false, false), (true, false, false), (false, false, false), (false, false, false)] true rfl (by kernel_rfl) (by kernel_rfl) (by (conv => lhs; simp only [List.map_cons, List.map_nil, List.getD_cons_zero, List.getD_cons_succ]) <;> rfl) ?_
              refine WLI.late (v := .pointer (some ⟨n0, 2, none⟩)) (fun h => by cases h) rfl rfl (fun H2 hI2 => Step.fieldAddr' rfl Try.underlying40 rfl info3 rfl rfl rfl) ?_
              refine WLI.late (v := .int .i64 x4293) (fun h => by cases h) rfl rfl (fun H2 hI2 => Step.load1' rfl Try.underlying3 rfl rfl (hI2.elim (fun e => by rw [e]; exact ho6033) (fun h => h)) rfl) ?_
              refine WLI.op (fun h => by cases h) ?_
              refine WL.move .r rfl rfl rfl rfl ?_
              with_reducible refine WL.nil ⟨rfl, ?_⟩
              refine WLI.op (fun h => by cases h) ?_
              refine WL.fieldAddr .r rfl rfl rfl Try.underlying40 rfl info30 rfl rfl ?_
              with_reducible refine WL.nil ⟨rfl, ?_⟩
              refine WLI.op (fun h => by cases h) ?_
              refine WL.load1 .r rfl rfl rfl Try.underlying30 rfl rfl ho6033 rfl ?_
              with_reducible refine WL.nil ⟨rfl, ?_⟩
              refine WLI.op (fun h => by cases h) ?_
              refine WL.len .r rfl rfl rfl Try.underlying30 rfl ?_
              with_reducible refine WL.nil ⟨rfl, ?_⟩
              refine WLI.op (fun h => by cases h) ?_
              obtain ⟨hc6218, hr⟩ := chk_some hr
              refine WL.addI .r rfl rfl rfl rfl rfl hc6218.1 hc6218.2 ?_
              with_reducible refine WL.nil ⟨rfl, ?_⟩
              refine WLI.op (fun h => by cases h) ?_
              obtain ⟨x6219, hx6219, hr⟩ := bnd_some hr
              have hb6229 := fun b hb => (OW.id_lt (i := b) h6029 hb).2
              have hb6230 := fun b hb => (OW.id_lt (i := b) h6030 hb).2
              refine GL.callIO g .w (fun i => (F6026 i).isSome = true ∨ i = p0) rfl rfl rfl rfl rfl rfl Try.func74 rfl rfl (Nat.le_refl _) hS6027.lo (f_spec_l00Src_next_k (x1 := ({ code := x5435.1.code, at_ := x5435.1.at_, seed := x5435.1.seed } : Gl00Src)) g (St.vis hS6027 (fun i hi => .inl hi)) (vis_get ho6036 (.inr (rfl))) fo6037 lo7 h6035 hx6219) (fun v n6220 H6221 H6222 hn6223 hp6224 hle6225 hnew6226 hk6227 hd6228 => ?_)
              obtain ⟨F6235, a6231, cap6232, hX6236, hS6234, ho6237, rfl, h6233⟩ := hp6224
              have hS6238 : St lo n6220 H6221 _ := ⟨hS6234.lo, fun i hi => (hnew6226 i (by omega)).trans (hS6234.hb i hi), hS6234.fh.trans hle6225⟩
              have ho6239 := (hk6227 _ (by have := lt6043; omega) (fun hs => by
      rcases hs with h | h
      · rw [fo6034] at h; cases h
      · omega)).trans ho6033
              have h6240 := OW.keep (n' := n6220) h6029 (by omega) (fun i hi => hk6227 i (OW.id_lt h6029 hi).2 (fun hs => by
      rcases hs with h | h
      · rw [(OW.fnone h6029 hi)] at h; cases h
      · exact ap6039 (h ▸ hi)))
              have h6241 := OW.keep (n' := n6220) h6030 (by omega) (fun i hi => hk6227 i (OW.id_lt h6030 hi).2 (fun hs => by
      rcases hs with h | h
      · rw [(OW.fnone h6030 hi)] at h; cases h
      · exact ap6041 (h ▸ hi)))
              have fo6242 := (hX6236.eq _ (by have := lt6043; omega)).trans fo6034
              have fo6243 := (hX6236.eq _ (by have := lt6044; omega)).trans fo6037
              have h6244 := OW.keepF h6240 hX6236.sub (fun i hi => (hX6236.eq i (by have := hb6229 i hi; omega)).trans (OW.fnone h6240 hi))
              have h6245 := OW.keepF h6241 hX6236.sub (fun i hi => (hX6236.eq i (by have := hb6230 i hi; omega)).trans (OW.fnone h6241 hi))
              have hE6246 := (hE6028.up (n' := n6024) (by omega)).trans hX6236
              have ho6247 := hle6225 _ _ ho6237
              have hlon6220 := hS6238.lo
              have lt6248 := hS6238.lt ho6239
              have lt6249 := hS6238.lt ho6247
              with_reducible refine WL.nil ⟨rfl, ?_⟩
              refine WLI.op (fun h => by cases h) ?_
              obtain ⟨hc6250, hr⟩ := chk_some hr
              refine WL.addI .r rfl rfl rfl rfl rfl hc6250.1 hc6250.2 ?_
              with_reducible refine WL.nil ⟨rfl, ?_⟩
              refine WLI.op (fun h => by cases h) ?_
              refine WL.assign .r rfl rfl rfl rfl ?_
              with_reducible refine WL.nil ⟨rfl, ?_⟩
              refine WLI.nil (fun _ => ho6239) ?_
              with_reducible refine Ex.thn_norm ?_
              with_reducible refine W.region ?_
              refine WL.move .nil rfl rfl rfl rfl ?_
              refine WL.loadN .nil (l' := [.int .i64 x4291, .int .i64 x4292, .int .i64 x4293, .int .i64 x4294, .slice a4295 xs4297.length cap4296, .int .i64 x4299]) rfl rfl rfl Try.underlying40 rfl info40 rfl ho6239 rfl rfl ?_
              refine WL.move .nil rfl rfl rfl rfl ?_
              obtain ⟨x6251, hx6251, hr⟩ := bnd_some hr
              have hb6257 := fun b hb => (OW.id_lt (i := b) h6244 hb).2
              have hb6258 := fun b hb => (OW.id_lt (i := b) h6245 hb).2
              refine GL.callP g.good .nil rfl rfl rfl rfl rfl rfl Try.func89 rfl rfl hS6238.lo (f_spec_l03TermAt_k  g hS6238 (h6032.mono hX6236.sub) hx6251) (fun v n6252 H6253 hn6254 hk6255 hp6256 => ?_)
              obtain ⟨hS6259, rfl⟩ := hp6256
              have ho6260 := (hk6255 _ (by have := lt6248; omega)).trans ho6239
              have ho6261 := (hk6255 _ (by have := lt6249; omega)).trans ho6247
              have h6262 := OW.keep (n' := n6252) h6244 (by omega) (fun i hi => hk6255 i (OW.id_lt h6244 hi).2)
              have h6263 := OW.keep (n' := n6252) h6245 (by omega) (fun i hi => hk6255 i (OW.id_lt h6245 hi).2)
              have hS6264 : St lo n6252 H6253 F6235 := ⟨by have := hS6238.lo; omega, hS6259.hb, hS6259.fh⟩
              have hlon6252 := hS6264.lo
              obtain ⟨x6265, hx6265, hr⟩ := bnd_some hr
              have hb6271 := fun b hb => (OW.id_lt (i := b) h6262 hb).2
              have hb6272 := fun b hb => (OW.id_lt (i := b) h6263 hb).2
              refine GL.callP g.good .nil rfl rfl rfl rfl rfl rfl Try.func88 rfl rfl hS6264.lo (f_spec_l03Base_k  g hS6264 hx6265) (fun v n6266 H6267 hn6268 hk6269 hp6270 => ?_)
              obtain ⟨a6273, cap6274, hS6276, rfl, h6275⟩ := hp6270
              have ho6277 := (hk6269 _ (by have := lt6248; omega)).trans ho6260
              have ho6278 := (hk6269 _ (by have := lt6249; omega)).trans ho6261
              have h6279 := OW.keep (n' := n6266) h6262 (by omega) (fun i hi => hk6269 i (OW.id_lt h6262 hi).2)
              have h6280 := OW.keep (n' := n6266) h6263 (by omega) (fun i hi => hk6269 i (OW.id_lt h6263 hi).2)
              have hS6281 : St lo n6266 H6267 F6235 := ⟨by have := hS6264.lo; omega, hS6276.hb, hS6276.fh⟩
              have hlon6266 := hS6281.lo
              have h6282 := OW.lower (lo' := n0) h6275 (by omega)
              have ap6284 : idOf (.slice a6273 x6265.length cap6274) ≠ some n0 := fun hj => by have := (OW.id_lt h6275 hj).1; have := lt6248; omega
              have ap6285 : idOf (.slice a6273 x6265.length cap6274) ≠ some p0 := fun hj => by have := (OW.id_lt h6275 hj).1; have := lt6249; omega
              have ap6286 : ∀ b, idOf (.slice a6273 x6265.length cap6274) = some b → idOf (.slice a4285 xs4287.length cap4286) ≠ some b := fun b hj hi => by have := (OW.id_lt h6275 hj).1; have := hb6271 b hi; omega
              have ap6287 : ∀ b, idOf (.slice a6273 x6265.length cap6274) = some b → idOf (.slice a5422 x5415.length cap5423) ≠ some b := fun b hj hi => by have := (OW.id_lt h6275 hj).1; have := hb6272 b hi; omega
              refine WL.assign .nil rfl rfl rfl rfl ?_
              with_reducible refine WL.nil ?_
              with_reducible refine Ex.blk_norm ?_
              with_reducible refine Ex.thn_norm ?_
              exact ⟨[(0, .pointer (some ⟨p0, 0, none⟩)), (3, .pointer (some ⟨n0, 0, none⟩)), (4, .slice a4285 xs4287.length cap4286), (5, .int .i64 x4290), (7, .slice a6273 x6265.length cap6274)], (Fr.le_cons rfl (Fr.le_cons rfl (Fr.le_cons rfl (Fr.le_cons rfl (Fr.le_cons rfl Fr.le_nil))))), a6273, cap6274, x6265, a6231, cap6232, x6219.1.code, x6219.1.at_, x6219.1.seed, F6235, rfl, hS6281, (hE6246.up (by omega)), ho6277, fo6242, ho6278, fo6243, h6279, h6282, (h6032.mono hX6236.sub), h6233, ap6038, ap6039, ap6284, ap6285, ap6286, hr⟩
            · replace hr := ite_neg hr hc6216
              with_reducible refine W.seq ?_
              with_reducible refine W.region ?_
              refine WL.bin .nil rfl rfl rfl rfl rfl rfl ?_
              refine WL.assign .nil rfl rfl rfl rfl ?_
              with_reducible refine WL.nil ?_
              with_reducible refine Ex.thn_norm ?_
              refine W.condD rfl (fun hc6288 => ?_) (fun hc6288 => ?_)
              · replace hr := ite_pos hr hc6288
                with_reducible refine W.seq ?_
                with_reducible refine W.region ?_
                refine WL.move .nil rfl rfl rfl rfl ?_
                obtain ⟨x6289, hx6289, hr⟩ := bnd_some hr
                have hb6299 := fun b hb => (OW.id_lt (i := b) h6029 hb).2
                have hb6300 := fun b hb => (OW.id_lt (i := b) h6030 hb).2
                refine GL.callIO g .nil (fun i => (F6026 i).isSome = true ∨ i = p0) rfl rfl rfl rfl rfl rfl Try.func90 rfl rfl (Nat.le_refl _) hS6027.lo (f_spec_l00Src_chance_k (x1 := ({ code := x5435.1.code, at_ := x5435.1.at_, seed := x5435.1.seed } : Gl00Src)) g (St.vis hS6027 (fun i hi => .inl hi)) (vis_get ho6036 (.inr (rfl))) fo6037 lo7 h6035 hx6289) (fun v n6290 H6291 H6292 hn6293 hp6294 hle6295 hnew6296 hk6297 hd6298 => ?_)
                obtain ⟨F6305, a6301, cap6302, hX6306, hS6304, ho6307, rfl, h6303⟩ := hp6294
                have hS6308 : St lo n6290 H6291 _ := ⟨hS6304.lo, fun i hi => (hnew6296 i (by omega)).trans (hS6304.hb i hi), hS6304.fh.trans hle6295⟩
                have ho6309 := (hk6297 _ (by have := lt6043; omega) (fun hs => by
      rcases hs with h | h
      · rw [fo6034] at h; cases h
      · omega)).trans ho6033
                have h6310 := OW.keep (n' := n6290) h6029 (by omega) (fun i hi => hk6297 i (OW.id_lt h6029 hi).2 (fun hs => by
      rcases hs with h | h
      · rw [(OW.fnone h6029 hi)] at h; cases h
      · exact ap6039 (h ▸ hi)))
                have h6311 := OW.keep (n' := n6290) h6030 (by omega) (fun i hi => hk6297 i (OW.id_lt h6030 hi).2 (fun hs => by
      rcases hs with h | h
      · rw [(OW.fnone h6030 hi)] at h; cases h
      · exact ap6041 (h ▸ hi)))
                have fo6312 := (hX6306.eq _ (by have := lt6043; omega)).trans fo6034
                have fo6313 := (hX6306.eq _ (by have := lt6044; omega)).trans fo6037
                have h6314 := OW.keepF h6310 hX6306.sub (fun i hi => (hX6306.eq i (by have := hb6299 i hi; omega)).trans (OW.fnone h6310 hi))
                have h6315 := OW.keepF h6311 hX6306.sub (fun i hi => (hX6306.eq i (by have := hb6300 i hi; omega)).trans (OW.fnone h6311 hi))
                have hE6316 := (hE6028.up (n' := n6024) (by omega)).trans hX6306
                have ho6317 := hle6295 _ _ ho6307
                have hlon6290 := hS6308.lo
                have lt6318 := hS6308.lt ho6309
                have lt6319 := hS6308.lt ho6317
                with_reducible refine WL.nil ?_
                with_reducible refine Ex.thn_norm ?_
                refine W.cond rfl (fun hc6320 => ?_) (fun hc6320 => ?_)
                · replace hr := iteB_pos hr hc6320
                  with_reducible refine W.region ?_
                  refine WL.move .nil rfl rfl rfl rfl ?_
                  obtain ⟨x6321, hx6321, hr⟩ := bnd_some hr
                  have hb6331 := fun b hb => (OW.id_lt (i := b) h6314 hb).2
                  have hb6332 := fun b hb => (OW.id_lt (i := b) h6315 hb).2
                  refine GL.callIO g .nil (fun i => (F6305 i).isSome = true ∨ i = p0) rfl rfl rfl rfl rfl rfl Try.func76 rfl rfl (Nat.le_refl _) hS6308.lo (f_spec_l00Src_bytes_k (x1 := ({ code := x6289.1.code, at_ := x6289.1.at_, seed := x6289.1.seed } : Gl00Src)) g (St.vis hS6308 (fun i hi => .inl hi)) (vis_get ho6317 (.inr (rfl))) fo6313 lo7 h6303 hx6321) (fun v n6322 H6323 H6324 hn6325 hp6326 hle6327 hnew6328 hk6329 hd6330 => ?_)
                  obtain ⟨F6340, a6333, cap6334, a6336, cap6337, hX6341, hS6339, ho6342, rfl, h6335, h6338⟩ := hp6326
                  have hS6343 : St lo n6322 H6323 _ := ⟨hS6339.lo, fun i hi => (hnew6328 i (by omega)).trans (hS6339.hb i hi), hS6339.fh.trans hle6327⟩
                  have ho6344 := (hk6329 _ (by have := lt6318; omega) (fun hs => by
      rcases hs with h | h
      · rw [fo6312] at h; cases h
      · omega)).trans ho6309
                  have h6345 := OW.keep (n' := n6322) h6314 (by omega) (fun i hi => hk6329 i (OW.id_lt h6314 hi).2 (fun hs => by
      rcases hs with h | h
      · rw [(OW.fnone h6314 hi)] at h; cases h
      · exact ap6039 (h ▸ hi)))
                  have h6346 := OW.keep (n' := n6322) h6315 (by omega) (fun i hi => hk6329 i (OW.id_lt h6315 hi).2 (fun hs => by
      rcases hs with h | h
      · rw [(OW.fnone h6315 hi)] at h; cases h
      · exact ap6041 (h ▸ hi)))
                  have fo6347 := (hX6341.eq _ (by have := lt6318; omega)).trans fo6312
                  have fo6348 := (hX6341.eq _ (by have := lt6319; omega)).trans fo6313
                  have h6349 := OW.keepF h6345 hX6341.sub (fun i hi => (hX6341.eq i (by have := hb6331 i hi; omega)).trans (OW.fnone h6345 hi))
                  have h6350 := OW.keepF h6346 hX6341.sub (fun i hi => (hX6341.eq i (by have := hb6332 i hi; omega)).trans (OW.fnone h6346 hi))
                  have hE6351 := (hE6316.up (n' := n6290) (by omega)).trans hX6341
                  have ho6352 := hle6327 _ _ ho6342
                  have h6354 := OW.lower (lo' := n0) (OW.le h6338 hle6327) (by omega)
                  have ap6355 : idOf (.slice a6336 x6321.2.length cap6337) ≠ some n0 := fun hj => (OW.after h6338 hd6330 hj).elim (fun h => by have := lt6318; omega) (fun hs => by
      rcases hs with h | h
      · rw [fo6312] at h; cases h
      · omega)
                  have ap6356 : ∀ b, idOf (.slice a6336 x6321.2.length cap6337) = some b → idOf (.slice a4285 xs4287.length cap4286) ≠ some b := fun b hj hi => (OW.after h6338 hd6330 hj).elim (fun h => by have := hb6331 b hi; omega) (fun hs => by
      rcases hs with h | h
      · rw [(OW.fnone h6314 hi)] at h; cases h
      · exact ap6039 (h ▸ hi))
                  have ap6357 : ∀ b, idOf (.slice a6336 x6321.2.length cap6337) = some b → idOf (.slice a5422 x5415.length cap5423) ≠ some b := fun b hj hi => (OW.after h6338 hd6330 hj).elim (fun h => by have := hb6332 b hi; omega) (fun hs => by
      rcases hs with h | h
      · rw [(OW.fnone h6315 hi)] at h; cases h
      · exact ap6041 (h ▸ hi))
                  have ap6358 : idOf (.slice a6336 x6321.2.length cap6337) ≠ some p0 := fun hj => by have := (OW.id_lt h6338 hj).1; have := lt6319; omega
                  have hlon6322 := hS6343.lo
                  have lt6359 := hS6343.lt ho6344
                  have lt6360 := hS6343.lt ho6352
                  obtain ⟨F6361, hS6362, hle6363, h6364, hf6365⟩ := OW.freeze h6354 hS6343
                  have fo6366 := (hf6365 _ ap6355).trans fo6347
                  have fo6367 := (hf6365 _ ap6358).trans fo6348
                  have h6368 := OW.keepF h6349 hle6363 (fun i hi => (hf6365 i (fun hj => ap6356 i hj hi)).trans (OW.fnone h6349 hi))
                  have h6369 := OW.keepF h6350 hle6363 (fun i hi => (hf6365 i (fun hj => ap6357 i hj hi)).trans (OW.fnone h6350 hi))
                  have hE6370 : Ext n0 F0 n6322 F6361 := ⟨Nat.le_trans hE6351.le (by omega), hE6351.sub.trans hle6363, fun i hi => (hf6365 i (fun hj => by have := OW.id_lt h6354 hj; omega)).trans (hE6351.eq i hi)⟩
                  obtain ⟨x6371, hx6371, hr⟩ := bnd_some hr
                  have hb6377 := fun b hb => (OW.id_lt (i := b) h6368 hb).2
                  have hb6378 := fun b hb => (OW.id_lt (i := b) h6369 hb).2
                  refine GL.callP g.good .nil rfl rfl rfl rfl rfl rfl Try.func91 rfl rfl hS6362.lo (f_spec_l01Frame_k  g hS6362 h6364 hx6371) (fun v n6372 H6373 hn6374 hk6375 hp6376 => ?_)
                  obtain ⟨a6379, cap6380, hS6382, rfl, h6381⟩ := hp6376
                  have ho6383 := (hk6375 _ (by have := lt6359; omega)).trans ho6344
                  have ho6384 := (hk6375 _ (by have := lt6360; omega)).trans ho6352
                  have h6385 := OW.keep (n' := n6372) h6368 (by omega) (fun i hi => hk6375 i (OW.id_lt h6368 hi).2)
                  have h6386 := OW.keep (n' := n6372) h6369 (by omega) (fun i hi => hk6375 i (OW.id_lt h6369 hi).2)
                  have hS6387 : St lo n6372 H6373 F6361 := ⟨by have := hS6362.lo; omega, hS6382.hb, hS6382.fh⟩
                  have hlon6372 := hS6387.lo
                  have h6388 := OW.lower (lo' := n0) h6381 (by omega)
                  have ap6390 : idOf (.slice a6379 x6371.length cap6380) ≠ some n0 := fun hj => by have := (OW.id_lt h6381 hj).1; have := lt6359; omega
                  have ap6391 : idOf (.slice a6379 x6371.length cap6380) ≠ some p0 := fun hj => by have := (OW.id_lt h6381 hj).1; have := lt6360; omega
                  have ap6392 : ∀ b, idOf (.slice a6379 x6371.length cap6380) = some b → idOf (.slice a4285 xs4287.length cap4286) ≠ some b := fun b hj hi => by have := (OW.id_lt h6381 hj).1; have := hb6377 b hi; omega
                  have ap6393 : ∀ b, idOf (.slice a6379 x6371.length cap6380) = some b → idOf (.slice a5422 x5415.length cap5423) ≠ some b := fun b hj hi => by have := (OW.id_lt h6381 hj).1; have := hb6378 b hi; omega
                  refine WL.assign .nil rfl rfl rfl rfl ?_
                  with_reducible refine WL.nil ?_
                  with_reducible refine Ex.blk_norm ?_
                  with_reducible refine Ex.thn_norm ?_
                  exact ⟨[(0, .pointer (some ⟨p0, 0, none⟩)), (3, .pointer (some ⟨n0, 0, none⟩)), (4, .slice a4285 xs4287.length cap4286), (5, .int .i64 x4290), (7, .slice a6379 x6371.length cap6380)], (Fr.le_cons rfl (Fr.le_cons rfl (Fr.le_cons rfl (Fr.le_cons rfl (Fr.le_cons rfl Fr.le_nil))))), a6379, cap6380, x6371, a6333, cap6334, x6321.1.code, x6321.1.at_, x6321.1.seed, F6361, rfl, hS6387, (hE6370.up (by omega)), ho6383, fo6366, ho6384, fo6367, h6385, h6388, (((h6032.mono hX6306.sub).mono hX6341.sub).mono hle6363), (h6335.mono hle6363), ap6038, ap6039, ap6390, ap6391, ap6392, hr⟩
                · replace hr := iteB_neg hr hc6320
                  with_reducible refine W.skip ?_
                  with_reducible refine Ex.blk_norm ?_
                  with_reducible refine Ex.thn_norm ?_
                  exact ⟨[(0, .pointer (some ⟨p0, 0, none⟩)), (3, .pointer (some ⟨n0, 0, none⟩)), (4, .slice a4285 xs4287.length cap4286), (5, .int .i64 x4290), (7, .slice a5422 x5415.length cap5423)], (Fr.le_cons rfl (Fr.le_cons rfl (Fr.le_cons rfl (Fr.le_cons rfl (Fr.le_cons rfl Fr.le_nil))))), a5422, cap5423, x5415, a6301, cap6302, x6289.1.code, x6289.1.at_, x6289.1.seed, F6305, rfl, hS6308, hE6316, ho6309, fo6312, ho6317, fo6313, h6314, h6315, (h6032.mono hX6306.sub), h6303, ap6038, ap6039, ap6040, ap6041, ap6042, hr⟩
              · replace hr := ite_neg hr hc6288
                with_reducible refine W.skip ?_
                with_reducible refine Ex.blk_norm ?_
                with_reducible refine Ex.thn_norm ?_
                exact ⟨[(0, .pointer (some ⟨p0, 0, none⟩)), (3, .pointer (some ⟨n0, 0, none⟩)), (4, .slice a4285 xs4287.length cap4286), (5, .int .i64 x4290), (7, .slice a5422 x5415.length cap5423)], (Fr.le_cons rfl (Fr.le_cons rfl (Fr.le_cons rfl (Fr.le_cons rfl (Fr.le_cons rfl Fr.le_nil))))), a5422, cap5423, x5415, a5447, cap5448, x5435.1.code, x5435.1.at_, x5435.1.seed, F6026, rfl, hS6027, hE6028, ho6033, fo6034, ho6036, fo6037, h6029, h6030, h6032, h6035, ap6038, ap6039, ap6040, ap6041, ap6042, hr⟩
      · intro _ n5842 H5843 hI
        obtain ⟨a5848, cap5849, xs5850, a5856, cap5857, xs5858, x5860, x5861, F5844, rfl, hS5845, hE5846, ho5854, fo5855, ho5862, fo5863, h5847, h5851, h5853, h5859, ap5864, ap5865, ap5866, ap5867, ap5868, hr⟩ := hI
        have lt5869 := hS5845.lt ho5854
        have lt5870 := hS5845.lt ho5862
        have hlen5842 := hE5846.le
        have hlon5842 := hS5845.lo
        unfold f_spec_l00Src_records_J1 at hr
        with_reducible refine W.seq ?_
        with_reducible refine W.region ?_
        refine WL.move .nil rfl rfl rfl rfl ?_
        obtain ⟨F5871, hS5872, hle5873, h5874, hf5875⟩ := OW.freeze h5851 hS5845
        have fo5876 := (hf5875 _ ap5866).trans fo5855
        have fo5877 := (hf5875 _ ap5867).trans fo5863
        have h5878 := OW.keepF h5847 hle5873 (fun i hi => (hf5875 i (fun hj => ap5868 i hj hi)).trans (OW.fnone h5847 hi))
        have hE5879 : Ext n0 F0 n5842 F5871 := ⟨Nat.le_trans hE5846.le (by omega), hE5846.sub.trans hle5873, fun i hi => (hf5875 i (fun hj => by have := OW.id_lt h5851 hj; omega)).trans (hE5846.eq i hi)⟩
        obtain ⟨x5880, hx5880, hr⟩ := bnd_some hr
        have hb5886 := fun b hb => (OW.id_lt (i := b) h5878 hb).2
        refine GL.callP g.good .nil rfl rfl rfl rfl rfl rfl Try.func84 rfl rfl hS5872.lo (f_spec_l01Next_k  g hS5872 h5874 hx5880) (fun v n5881 H5882 hn5883 hk5884 hp5885 => ?_)
        obtain ⟨a5887, cap5888, hS5890, rfl, h5889⟩ := hp5885
        have ho5891 := (hk5884 _ (by have := lt5869; omega)).trans ho5854
        have ho5892 := (hk5884 _ (by have := lt5870; omega)).trans ho5862
        have h5893 := OW.keep (n' := n5881) h5878 (by omega) (fun i hi => hk5884 i (OW.id_lt h5878 hi).2)
        have hS5894 : St lo n5881 H5882 F5871 := ⟨by have := hS5872.lo; omega, hS5890.hb, hS5890.fh⟩
        have hlon5881 := hS5894.lo
        have h5895 := OW.lower (lo' := n0) h5889 (by omega)
        have ap5897 : idOf (.slice a5887 x5880.1.length cap5888) ≠ some n0 := fun hj => by have := (OW.id_lt h5889 hj).1; have := lt5869; omega
        have ap5898 : idOf (.slice a5887 x5880.1.length cap5888) ≠ some p0 := fun hj => by have := (OW.id_lt h5889 hj).1; have := lt5870; omega
        have ap5899 : ∀ b, idOf (.slice a5887 x5880.1.length cap5888) = some b → idOf (.slice a4285 xs4287.length cap4286) ≠ some b := fun b hj hi => by have := (OW.id_lt h5889 hj).1; have := hb5886 b hi; omega
        refine WL.move .nil rfl rfl rfl rfl ?_
        refine WL.extract .nil rfl rfl rfl rfl rfl ?_
        refine WL.extract .nil rfl rfl rfl rfl rfl ?_
        refine WL.extract .nil rfl rfl rfl rfl rfl ?_
        refine WL.assign .nil rfl rfl rfl rfl ?_
        refine WL.assign .nil rfl rfl rfl rfl ?_
        refine WL.assign .nil rfl rfl rfl rfl ?_
        with_reducible refine WL.nil ?_
        with_reducible refine Ex.thn_norm ?_
        with_reducible refine W.seq ?_
        with_reducible refine W.region ?_
        refine WL.loadN .nil (l' := [.int .i64 x4291, .int .i64 x4292, .int .i64 x4293, .int .i64 x4294, .slice a4295 xs4297.length cap4296, .int .i64 x4299]) rfl rfl rfl Try.underlying40 rfl info40 rfl ho5891 rfl rfl ?_
        refine WL.move .nil rfl rfl rfl rfl ?_
        obtain ⟨F5900, hS5901, hle5902, h5903, hf5904⟩ := OW.freeze h5895 hS5894
        have fo5905 := (hf5904 _ ap5897).trans fo5876
        have fo5906 := (hf5904 _ ap5898).trans fo5877
        have h5907 := OW.keepF h5893 hle5902 (fun i hi => (hf5904 i (fun hj => ap5899 i hj hi)).trans (OW.fnone h5893 hi))
        have hE5908 : Ext n0 F0 n5881 F5900 := ⟨Nat.le_trans hE5879.le (by omega), hE5879.sub.trans hle5902, fun i hi => (hf5904 i (fun hj => by have := OW.id_lt h5895 hj; omega)).trans (hE5879.eq i hi)⟩
        obtain ⟨x5909, hx5909, hr⟩ := bnd_some hr
        have hb5915 := fun b hb => (OW.id_lt (i := b) h5907 hb).2
        refine GL.callP g.good .nil rfl rfl rfl rfl rfl rfl Try.func85 rfl rfl hS5901.lo (f_spec_l03Take_k  g hS5901 ((h5853.mono hle5873).mono hle5902) h5903 hx5909) (fun v n5910 H5911 hn5912 hk5913 hp5914 => ?_)
        obtain ⟨F5920, a5916, cap5917, hX5921, hS5919, rfl, h5918⟩ := hp5914
        have ho5922 := (hk5913 _ (by have := lt5869; omega)).trans ho5891
        have ho5923 := (hk5913 _ (by have := lt5870; omega)).trans ho5892
        have h5924 := OW.keep (n' := n5910) h5907 (by omega) (fun i hi => hk5913 i (OW.id_lt h5907 hi).2)
        have hS5925 : St lo n5910 H5911 F5920 := ⟨by have := hS5901.lo; omega, hS5919.hb, hS5919.fh⟩
        have fo5926 := (hX5921.eq _ (by have := lt5869; omega)).trans fo5905
        have fo5927 := (hX5921.eq _ (by have := lt5870; omega)).trans fo5906
        have h5928 := OW.keepF h5924 hX5921.sub (fun i hi => (hX5921.eq i (by have := OW.id_lt h5907 hi; omega)).trans (OW.fnone h5924 hi))
        have hE5929 := (hE5908.up (n' := n5881) (by omega)).trans hX5921
        have hlon5910 := hS5925.lo
        refine WL.move .nil rfl rfl rfl rfl ?_
        refine WL.extract .nil rfl rfl rfl rfl rfl ?_
        refine WL.extract .nil rfl rfl rfl rfl rfl ?_
        refine GL.alloc hS5925 .nil (zc := [.int .i64 0, .int .i64 0, .int .i64 0, .int .i64 0, .slice none 0 0, .int .i64 0]) rfl rfl rfl info40 rfl rfl rfl (fun H5930 hS5931 ho5932 hk5933 => ?_)
        have fo5934 := hS5925.fnone (Nat.le_refl _)
        have ap5936 : idOf (.slice a4285 xs4287.length cap4286) ≠ some n5910 := fun hj => by have := OW.id_lt h5928 hj; omega
        have ho5937 := (hk5933 _ (by have := lt5869; omega)).trans ho5922
        have ho5938 := (hk5933 _ (by have := lt5870; omega)).trans ho5923
        have h5939 := OW.keep (n' := (n5910 + 1)) h5928 (by omega) (fun i hi => hk5933 i (OW.id_lt h5928 hi).2)
        have hlon59101 := hS5931.lo
        have lt5935 : n5910 < (n5910 + 1) := by omega
        refine GL.store hS5931 .nil (vc := [.int .i64 x5909.1.Term, .int .i64 x5909.1.Vote, .int .i64 x5909.1.Base, .int .i64 x5909.1.BaseTerm, .slice a5916 x5909.1.Log.length cap5917, .int .i64 x5909.1.Good]) (c' := [.int .i64 x5909.1.Term, .int .i64 x5909.1.Vote, .int .i64 x5909.1.Base, .int .i64 x5909.1.BaseTerm, .slice a5916 x5909.1.Log.length cap5917, .int .i64 x5909.1.Good]) rfl rfl rfl info40 rfl rfl rfl rfl ho5932 fo5934 (Nat.le_of_ble_eq_true rfl) (by omega) (by repeat' (first | exact List.forall_mem_nil _ | refine List.forall_mem_cons.2 ⟨?_, ?_⟩ | rfl)) rfl (fun H5940 hS5941 ho5942 hk5943 => ?_)
        have ho5944 := (hk5943 _ (by omega)).trans ho5937
        have ho5945 := (hk5943 _ (by omega)).trans ho5938
        have h5946 := OW.keep h5939 (Nat.le_refl _) (fun i hi => hk5943 i (fun hj => ap5936 (hj ▸ hi)))
        refine WL.assign .nil rfl rfl rfl rfl ?_
        with_reducible refine WL.nil ?_
        with_reducible refine Ex.thn_norm ?_
        with_reducible refine W.seq ?_
        with_reducible refine W.seq ?_
        with_reducible refine W.region ?_
        refine WL.move .nil rfl rfl rfl rfl ?_
        with_reducible refine WL.nil ?_
        with_reducible refine Ex.thn_norm ?_
        refine W.cut (fun fr n H => ∃ (x5962 : Int) (x5963 : Int) (x5964 : Int) (x5965 : Int) (a5966 : Option Addr) (cap5967 : Nat) (xs5968 : (List GRec)) (x5970 : Int) (F : Heap), fr = [(0, .pointer (some ⟨p0, 0, none⟩)), (3, .pointer (some ⟨n0, 0, none⟩)), (4, .slice a4285 xs4287.length cap4286), (5, .int .i64 x4290), (7, .slice a5848 xs5850.length cap5849)] ∧ St lo n H F ∧ Ext n0 F0 n F ∧ H n0 = some (.row 1 [.int .i64 x5962, .int .i64 x5963, .int .i64 x5964, .int .i64 x5965, .slice a5966 xs5968.length cap5967, .int .i64 x5970]) ∧ F n0 = none ∧ H p0 = some (.row ez0 [.slice a5856 xs5858.length cap5857, .int .i64 x5860, .int .i64 x5861]) ∧ F p0 = none ∧ OW n0 n H F (.slice a4285 xs4287.length cap4286) xs4287 ∧ SR F (.slice a5848 xs5850.length cap5849) xs5850 ∧ SR F (.slice a5966 xs5968.length cap5967) xs5968 ∧ SR F (.slice a5856 xs5858.length cap5857) xs5858 ∧ idOf (.slice a4285 xs4287.length cap4286) ≠ some n0 ∧ idOf (.slice a4285 xs4287.length cap4286) ≠ some p0 ∧ f_spec_l00Src_records_J2 xs4287 xs5850 x4290 (f_spec_l00Src_records_L0 k0) xs5858 x5860 x5861 x5962 x5963 x5964 x5965 xs5968 x5970 = some res) ?_ ?_
        · refine W.cond rfl (fun hc6013 => ?_) (fun hc6013 => ?_)
          · replace hr := iteB_pos hr hc6013
            with_reducible refine W.region ?_
            refine WL.loadN .nil (l' := [.int .i64 x5909.1.Term, .int .i64 x5909.1.Vote, .int .i64 x5909.1.Base, .int .i64 x5909.1.BaseTerm, .slice a5916 x5909.1.Log.length cap5917, .int .i64 x5909.1.Good]) rfl rfl rfl Try.underlying40 rfl info40 rfl ho5942 rfl rfl ?_
            refine GL.store hS5941 .nil (vc := [.int .i64 x5909.1.Term, .int .i64 x5909.1.Vote, .int .i64 x5909.1.Base, .int .i64 x5909.1.BaseTerm, .slice a5916 x5909.1.Log.length cap5917, .int .i64 x5909.1.Good]) (c' := [.int .i64 x5909.1.Term, .int .i64 x5909.1.Vote, .int .i64 x5909.1.Base, .int .i64 x5909.1.BaseTerm, .slice a5916 x5909.1.Log.length cap5917, .int .i64 x5909.1.Good]) rfl rfl rfl info40 rfl rfl rfl rfl ho5944 fo5926 (Nat.le_of_ble_eq_true rfl) (by omega) (by repeat' (first | exact List.forall_mem_nil _ | refine List.forall_mem_cons.2 ⟨?_, ?_⟩ | rfl)) rfl (fun H6014 hS6015 ho6016 hk6017 => ?_)
            have ho6018 := (hk6017 _ (by omega)).trans ho5945
            have ho6019 := (hk6017 _ (by omega)).trans ho5942
            have h6020 := OW.keep h5946 (Nat.le_refl _) (fun i hi => hk6017 i (fun hj => ap5864 (hj ▸ hi)))
            with_reducible refine WL.nil ?_
            with_reducible refine Ex.thn_norm ?_
            exact ⟨[(0, .pointer (some ⟨p0, 0, none⟩)), (3, .pointer (some ⟨n0, 0, none⟩)), (4, .slice a4285 xs4287.length cap4286), (5, .int .i64 x4290), (7, .slice a5848 xs5850.length cap5849)], (Fr.le_cons rfl (Fr.le_cons rfl (Fr.le_cons rfl (Fr.le_cons rfl (Fr.le_cons rfl Fr.le_nil))))), x5909.1.Term, x5909.1.Vote, x5909.1.Base, x5909.1.BaseTerm, a5916, cap5917, x5909.1.Log, x5909.1.Good, F5920, rfl, hS6015, (hE5929.up (by omega)), ho6016, fo5926, ho6018, fo5927, h6020, ((h5874.mono hle5902).mono hX5921.sub), h5918, (((h5859.mono hle5873).mono hle5902).mono hX5921.sub), ap5864, ap5865, hr⟩
          · replace hr := iteB_neg hr hc6013
            with_reducible refine W.skip ?_
            with_reducible refine Ex.thn_norm ?_
            exact ⟨[(0, .pointer (some ⟨p0, 0, none⟩)), (3, .pointer (some ⟨n0, 0, none⟩)), (4, .slice a4285 xs4287.length cap4286), (5, .int .i64 x4290), (7, .slice a5848 xs5850.length cap5849)], (Fr.le_cons rfl (Fr.le_cons rfl (Fr.le_cons rfl (Fr.le_cons rfl (Fr.le_cons rfl Fr.le_nil))))), x4291, x4292, x4293, x4294, a4295, cap4296, xs4297, x4299, F5920, rfl, hS5941, (hE5929.up (by omega)), ho5944, fo5926, ho5945, fo5927, h5946, ((h5874.mono hle5902).mono hX5921.sub), (((h5853.mono hle5873).mono hle5902).mono hX5921.sub), (((h5859.mono hle5873).mono hle5902).mono hX5921.sub), ap5864, ap5865, hr⟩
        · intro _ n5955 H5956 hI
          obtain ⟨x5962, x5963, x5964, x5965, a5966, cap5967, xs5968, x5970, F5957, rfl, hS5958, hE5959, ho5971, fo5972, ho5974, fo5975, h5960, h5961, h5969, h5973, ap5976, ap5977, hr⟩ := hI
          have lt5978 := hS5958.lt ho5971
          have lt5979 := hS5958.lt ho5974
          have hlen5955 := hE5959.le
          have hlon5955 := hS5958.lo
          unfold f_spec_l00Src_records_J2 at hr
          with_reducible refine W.region ?_
          refine WL.move .nil rfl rfl rfl rfl ?_
          refine WL.move .nil rfl rfl rfl rfl ?_
          have hb5984 := fun b hb => (OW.id_lt (i := b) h5960 hb).2
          refine GL.lit (cs := [.slice a5848 xs5850.length cap5849]) (xs := ([xs5850] : List (List UInt8))) hS5958 .nil rfl rfl rfl Try.underlying48 info24 rfl rfl rfl (by decide) (by decide) rfl rfl rfl rfl rfl (RA.cons (cs := [.slice a5848 xs5850.length cap5849]) (a := (xs5850 : (List UInt8))) ⟨_, rfl, h5961⟩ RA.nil) rfl (fun H5980 hS5981 hO5982 hk5983 => ?_)
          have ho5985 := (hk5983 _ (by have := lt5978; omega)).trans ho5971
          have ho5986 := (hk5983 _ (by have := lt5979; omega)).trans ho5974
          have h5987 := OW.keep (n' := (n5955 + 1)) h5960 (by omega) (fun i hi => hk5983 i (OW.id_lt h5960 hi).2)
          have h5988 := OW.lower (lo' := n0) hO5982 (by omega)
          have hlon59551 := hS5981.lo
          have ap5990 : idOf (.slice (some ⟨n5955, 0, none⟩) ([xs5850] : List (List UInt8)).length 1) ≠ some n0 := fun hj => by have := (OW.id_lt hO5982 hj).1; have := lt5978; omega
          have ap5991 : idOf (.slice (some ⟨n5955, 0, none⟩) ([xs5850] : List (List UInt8)).length 1) ≠ some p0 := fun hj => by have := (OW.id_lt hO5982 hj).1; have := lt5979; omega
          have ap5992 : ∀ b, idOf (.slice (some ⟨n5955, 0, none⟩) ([xs5850] : List (List UInt8)).length 1) = some b → idOf (.slice a4285 xs4287.length cap4286) ≠ some b := fun b hj hi => by have := (OW.id_lt hO5982 hj).1; have := hb5984 b hi; omega
          obtain ⟨hc5993, hr⟩ := chk_some hr
          have hb6003 := fun b hb => (OW.id_lt (i := b) h5987 hb).2
          have hb6004 := fun b hb => (OW.id_lt (i := b) h5988 hb).2
          refine GL.append (α := (List UInt8)) hS5981 .nil rfl rfl rfl Try.underlying48 Try.underlying48 rfl info24 rfl rfl rfl (by decide) rfl rfl h5987 (by omega) (by omega) (OW.src h5988) hc5993 (fun a5994 cap5995 n5996 H5997 hS5998 hn5999 hO6000 hk6001 hid6002 => ?_)
          have ho6005 := (hk6001 _ (by have := lt5978; omega) ap5976).trans ho5985
          have ho6006 := (hk6001 _ (by have := lt5979; omega) ap5977).trans ho5986
          have h6007 := OW.keep h5988 hn5999 (fun i hi => hk6001 i (OW.id_lt h5988 hi).2 (fun hj => (fun b h1 h2 => ap5992 b h2 h1) _ hj hi))
          have ap6009 : idOf (.slice a5994 (xs4287 ++ ([xs5850] : List (List UInt8))).length cap5995) ≠ some n0 := fun hj => (hid6002 _ hj).elim (fun h => by have := lt5978; omega) ap5976
          have ap6010 : idOf (.slice a5994 (xs4287 ++ ([xs5850] : List (List UInt8))).length cap5995) ≠ some p0 := fun hj => (hid6002 _ hj).elim (fun h => by have := lt5979; omega) ap5977
          have ap6011 : ∀ b, idOf (.slice a5994 (xs4287 ++ ([xs5850] : List (List UInt8))).length cap5995) = some b → idOf (.slice (some ⟨n5955, 0, none⟩) ([xs5850] : List (List UInt8)).length 1) ≠ some b := fun b hj hi => (hid6002 _ hj).elim (fun h => by have := hb6004 b hi; omega) (fun h => (fun b h1 h2 => ap5992 b h2 h1) _ h hi)
          have hlon5996 := hS5998.lo
          refine WL.assign .nil rfl rfl rfl rfl ?_
          with_reducible refine WL.nil ?_
          with_reducible refine Ex.blk_norm ?_
          with_reducible refine Ex.thn_norm ?_
          with_reducible refine W.region ?_
          refine WL.move .nil rfl rfl rfl rfl ?_
          obtain ⟨hc6012, hr⟩ := chk_some hr
          refine WL.subI .nil rfl rfl rfl rfl rfl hc6012.1 hc6012.2 ?_
          refine WL.assign .nil rfl rfl rfl rfl ?_
          with_reducible refine WL.nil ?_
          with_reducible refine Ex.thn_norm ?_
          exact ⟨[(0, .pointer (some ⟨p0, 0, none⟩)), (3, .pointer (some ⟨n0, 0, none⟩)), (4, .slice a5994 (xs4287 ++ ([xs5850] : List (List UInt8))).length cap5995), (5, .int .i64 (x4290 - 1))], (Fr.le_cons rfl (Fr.le_cons rfl (Fr.le_cons rfl (Fr.le_cons rfl Fr.le_nil)))), a5994, cap5995, (xs4287 ++ ([xs5850] : List (List UInt8))), (x4290 - 1), x5962, x5963, x5964, x5965, a5966, cap5967, xs5968, x5970, a5856, cap5857, xs5858, x5860, x5861, F5957, rfl, hS5998, (hE5959.up (by omega)), ho6005, fo5972, ho6006, fo5975, hO6000, h5969, h5973, ap6009, ap6010, hr⟩
    · replace hr := ite_neg hr hc4315
      with_reducible refine W.exit ?_
      with_reducible refine Ex.thn_ex ?_
      with_reducible refine Ex.thn_ex ?_
      with_reducible refine Ex.blk_here ?_
      with_reducible refine Ex.thn_norm ?_
      with_reducible refine W.seq ?_
      with_reducible refine W.region ?_
      refine WL.move .nil rfl rfl rfl rfl ?_
      refine WL.assign .nil rfl rfl rfl rfl ?_
      with_reducible refine WL.nil ?_
      with_reducible refine Ex.thn_norm ?_
      with_reducible refine W.ret ?_
      obtain rfl := Option.some.inj hr
      exact ⟨.inr rfl, _, (.cons (.tmp rfl) .nil), ⟨F4282, a4302, cap4303, a4285, cap4286, (hE4284.up (by omega)), hS4283, ho4308, rfl, h4305, h4288⟩⟩
theorem f_spec_RecordsOf_k {Δ : Prims} (g : Env Try.prog Δ) {lo n0 : Nat} {H0 F0 : Heap} (hS : St lo n0 H0 F0) {a2 : Option Addr} {cap3 : Nat} {xs1 : (List UInt8)} (h4 : SR F0 (.slice a2 xs1.length cap3) xs1) {res : ((List (List UInt8)))} (hr : f_spec_RecordsOf xs1 = some res) :
    C Try.prog Δ n0 17 [.slice a2 xs1.length cap3] n0 H0 (fun v n H => ∃ (F : Heap) (ra1 : Option Addr) (rcap2 : Nat), Ext n0 F0 n F ∧ St n0 n H F ∧ v = .slice ra1 res.length rcap2 ∧ OW n0 n H F (.slice ra1 res.length rcap2) res) := by
  refine C.body Try.func17 rfl rfl ?_
  unfold f_spec_RecordsOf at hr
  have hS0 : St n0 n0 H0 F0 := hS.low (Nat.le_refl _)
  have hE0 := Ext.refl n0 F0
  have hlo0 := hS0.lo
  with_reducible refine W.seq ?_
  with_reducible refine W.region ?_
  refine WL.assign .nil rfl rfl rfl rfl ?_
  with_reducible refine WL.nil ?_
  with_reducible refine Ex.thn_norm ?_
  with_reducible refine W.seq ?_
  with_reducible refine W.region ?_
  refine WL.move .nil rfl rfl rfl rfl ?_
  obtain ⟨x5, hx5, hr⟩ := bnd_some hr
  refine GL.callP g.good .nil rfl rfl rfl rfl rfl rfl Try.func39 rfl rfl hS0.lo (f_spec_l00Source_k  g hS0 h4 hx5) (fun v n6 H7 hn8 hk9 hp10 => ?_)
  obtain ⟨F19, a15, cap16, p11, hX20, hS18, rfl, lo12, ho13, fo14, h17⟩ := hp10
  have hS21 : St n0 n6 H7 F19 := ⟨by have := hS0.lo; omega, hS18.hb, hS18.fh⟩
  have hE22 := (hE0.up (n' := n0) (by omega)).trans hX20
  have hlon6 := hS21.lo
  have lt23 := hS21.lt ho13
  obtain ⟨x24, hx24, hr⟩ := bnd_some hr
  refine GL.callIO g .nil (fun i => (F19 i).isSome = true ∨ i = p11) rfl rfl rfl rfl rfl rfl Try.func49 rfl rfl (Nat.le_refl _) hS21.lo (f_spec_l00Src_records_k (x1 := ({ code := x5.code, at_ := x5.at_, seed := x5.seed } : Gl00Src)) g (St.vis hS21 (fun i hi => .inl hi)) (vis_get ho13 (.inr (rfl))) fo14 (by omega) h17 hx24) (fun v n25 H26 H27 hn28 hp29 hle30 hnew31 hk32 hd33 => ?_)
  obtain ⟨F41, a34, cap35, a37, cap38, hX42, hS40, ho43, rfl, h36, h39⟩ := hp29
  have hS44 : St n0 n25 H26 _ := ⟨hS40.lo, fun i hi => (hnew31 i (by omega)).trans (hS40.hb i hi), hS40.fh.trans hle30⟩
  have fo45 := (hX42.eq _ (by have := lt23; omega)).trans fo14
  have hE46 := (hE22.up (n' := n6) (by omega)).trans hX42
  have ho47 := hle30 _ _ ho43
  have h49 := OW.lower (lo' := n0) (OW.le h39 hle30) (by omega)
  have ap50 : idOf (.slice a37 x24.2.length cap38) ≠ some p11 := fun hj => by have := (OW.id_lt h39 hj).1; have := lt23; omega
  have hlon25 := hS44.lo
  have lt51 := hS44.lt ho47
  refine WL.assign .nil rfl rfl rfl rfl ?_
  with_reducible refine WL.nil ?_
  with_reducible refine Ex.thn_norm ?_
  with_reducible refine W.ret ?_
  obtain rfl := Option.some.inj hr
  exact ⟨.inr rfl, _, (.cons (.tmp rfl) .nil), ⟨F41, a37, cap38, (hE46.up (by omega)), hS44, rfl, h49⟩⟩
theorem f_laws_join_k {Δ : Prims} (g : Env Try.prog Δ) {lo n0 : Nat} {H0 F0 : Heap} (hS : St lo n0 H0 F0) {a2 : Option Addr} {cap3 : Nat} {xs1 : (List (List UInt8))} (h4 : SR F0 (.slice a2 xs1.length cap3) xs1) {res : ((List UInt8))} (hr : f_laws_join xs1 = some res) :
    C Try.prog Δ n0 18 [.slice a2 xs1.length cap3] n0 H0 (fun v n H => ∃ (ra1 : Option Addr) (rcap2 : Nat), St n0 n H F0 ∧ v = .slice ra1 res.length rcap2 ∧ OW n0 n H F0 (.slice ra1 res.length rcap2) res) := by
  refine C.body Try.func18 rfl rfl ?_
  unfold f_laws_join at hr
  have hS0 : St n0 n0 H0 F0 := hS.low (Nat.le_refl _)
  have hE0 := Ext.refl n0 F0
  have hlo0 := hS0.lo
  with_reducible refine W.seq ?_
  with_reducible refine W.region ?_
  refine WL.assign .nil rfl rfl rfl rfl ?_
  with_reducible refine WL.nil ?_
  with_reducible refine Ex.thn_norm ?_
  with_reducible refine W.seq ?_
  with_reducible refine W.region ?_
  refine GL.lit (cs := []) (xs := ([] : List UInt8)) hS0 .nil rfl rfl rfl Try.underlying24 info5 rfl rfl rfl (by decide) (by decide) rfl rfl rfl rfl rfl RA.nil rfl (fun H5 hS6 hO7 hk8 => ?_)
  have h9 := OW.lower (lo' := n0) hO7 (by omega)
  have hlon01 := hS6.lo
  refine WL.assign .nil rfl rfl rfl rfl ?_
  with_reducible refine WL.nil ?_
  with_reducible refine Ex.thn_norm ?_
  with_reducible refine W.seq ?_
  with_reducible refine W.seq ?_
  with_reducible refine W.region ?_
  refine WL.assign .nil rfl rfl rfl rfl ?_
  with_reducible refine WL.nil ?_
  with_reducible refine Ex.thn_norm ?_
  with_reducible refine W.block ?_
  refine W.loopF (fun k0 fr n H => ∃ (a134 : Option Addr) (cap135 : Nat) (xs136 : (List UInt8)) (x139 : Int) (F : Heap), fr = [(0, .slice a2 xs1.length cap3), (3, .slice a134 xs136.length cap135), (4, .int .i64 x139)] ∧ St n0 n H F ∧ Ext n0 F0 n F ∧ SR F (.slice a2 xs1.length cap3) xs1 ∧ OW n0 n H F (.slice a134 xs136.length cap135) xs136 ∧ f_laws_join_L0 xs1 k0 xs136 x139 = some res) BIG (fr0 := [(0, .slice a2 xs1.length cap3), (3, .slice (some ⟨n0, 0, none⟩) ([] : List UInt8).length 0), (4, .int .i64 0)]) (Fr.le_cons rfl (Fr.le_cons rfl (Fr.le_cons rfl Fr.le_nil))) ?_ ?_ ?_
  · exact ⟨(some ⟨n0, 0, none⟩), 0, ([] : List UInt8), 0, F0, rfl, hS6, (hE0.up (by omega)), h4, h9, hr⟩
  · intro fr n H hI
    obtain ⟨a134, cap135, xs136, x139, F130, hfr, hS131, hE132, h133, h137, hr⟩ := hI
    rw [f_laws_join_L0] at hr
    cases hr
  · intro k0 _ n128 H129 hI
    obtain ⟨a134, cap135, xs136, x139, F130, rfl, hS131, hE132, h133, h137, hr⟩ := hI
    have hlen128 := hE132.le
    have hlon128 := hS131.lo
    rw [f_laws_join_L0] at hr
    with_reducible refine W.seq ?_
    with_reducible refine W.seq ?_
    with_reducible refine W.region ?_
    refine WL.move .nil rfl rfl rfl rfl ?_
    refine WL.move .nil rfl rfl rfl rfl ?_
    refine WL.len .nil rfl rfl rfl Try.underlying48 rfl ?_
    refine WL.bin .nil rfl rfl rfl rfl rfl rfl ?_
    with_reducible refine WL.nil ?_
    with_reducible refine Ex.thn_norm ?_
    refine W.condD rfl (fun hc141 => ?_) (fun hc141 => ?_)
    · replace hr := ite_pos hr hc141
      with_reducible refine W.skip ?_
      with_reducible refine Ex.thn_norm ?_
      with_reducible refine W.seq ?_
      with_reducible refine W.block ?_
      with_reducible refine W.region ?_
      refine WL.move .nil rfl rfl rfl rfl ?_
      refine WL.move .nil rfl rfl rfl rfl ?_
      refine WL.move .nil rfl rfl rfl rfl ?_
      obtain ⟨x165, hx165, hr⟩ := bnd_some hr
      refine GL.index .nil rfl rfl rfl Try.underlying48 info24 rfl rfl h133 hS131.fh rfl hx165 (fun b166 kp167 c168 ecs169 hrow170 hwin171 hR172 => ?_)
      obtain ⟨_, hcs, h175⟩ := hR172
      obtain ⟨a173, cap174, rfl⟩ := SR.form h175
      subst hcs
      refine WL.load1 .nil rfl rfl rfl Try.underlying24 rfl rfl hrow170 ((win_get0 hwin171 (show (0 : Nat) < 1 by decide)).trans rfl) ?_
      obtain ⟨hc176, hr⟩ := chk_some hr
      have hb186 := fun b hb => (OW.id_lt (i := b) h137 hb).2
      refine GL.append (α := UInt8) hS131 .nil rfl rfl rfl Try.underlying24 Try.underlying24 rfl info5 rfl rfl rfl (by decide) rfl rfl h137 (by omega) (by omega) (SR.src h175 hS131.fh) hc176 (fun a177 cap178 n179 H180 hS181 hn182 hO183 hk184 hid185 => ?_)
      have hlon179 := hS181.lo
      refine WL.assign .nil rfl rfl rfl rfl ?_
      with_reducible refine WL.nil ?_
      with_reducible refine Ex.blk_norm ?_
      with_reducible refine Ex.thn_norm ?_
      with_reducible refine W.region ?_
      refine WL.move .nil rfl rfl rfl rfl ?_
      obtain ⟨hc188, hr⟩ := chk_some hr
      refine WL.addI .nil rfl rfl rfl rfl rfl hc188.1 hc188.2 ?_
      refine WL.assign .nil rfl rfl rfl rfl ?_
      with_reducible refine WL.nil ?_
      with_reducible refine Ex.thn_norm ?_
      exact ⟨[(0, .slice a2 xs1.length cap3), (3, .slice a177 (xs136 ++ x165).length cap178), (4, .int .i64 (x139 + 1))], (Fr.le_cons rfl (Fr.le_cons rfl (Fr.le_cons rfl Fr.le_nil))), a177, cap178, (xs136 ++ x165), (x139 + 1), F130, rfl, hS181, (hE132.up (by omega)), h133, hO183, hr⟩
    · replace hr := ite_neg hr hc141
      with_reducible refine W.exit ?_
      with_reducible refine Ex.thn_ex ?_
      with_reducible refine Ex.thn_ex ?_
      with_reducible refine Ex.blk_here ?_
      with_reducible refine Ex.thn_norm ?_
      with_reducible refine W.seq ?_
      with_reducible refine W.region ?_
      refine WL.move .nil rfl rfl rfl rfl ?_
      refine WL.assign .nil rfl rfl rfl rfl ?_
      with_reducible refine WL.nil ?_
      with_reducible refine Ex.thn_norm ?_
      with_reducible refine W.ret ?_
      obtain rfl := Option.some.inj hr
      exact ⟨.inr rfl, _, (.cons (.tmp rfl) .nil), ⟨a134, cap135, (Ext.st hE132 hS131), rfl, (OW.downSc hE132.sub h137)⟩⟩
theorem f_laws_at_k {Δ : Prims} (g : Env Try.prog Δ) {lo n0 : Nat} {H0 F0 : Heap} (hS : St lo n0 H0 F0) {a2 : Option Addr} {cap3 : Nat} {xs1 : (List UInt8)} {x5 : Int} {x6 : Int} (h4 : SR F0 (.slice a2 xs1.length cap3) xs1) {res : (Int)} (hr : f_laws_at xs1 x5 x6 = some res) :
    C Try.prog Δ n0 19 [.slice a2 xs1.length cap3, .int .i64 x5, .int .i64 x6] n0 H0 (fun v n H => St n0 n H F0 ∧ v = .int .i64 res) := by
  refine C.body Try.func19 rfl rfl ?_
  unfold f_laws_at at hr
  have hS0 : St n0 n0 H0 F0 := hS.low (Nat.le_refl _)
  have hE0 := Ext.refl n0 F0
  have hlo0 := hS0.lo
  with_reducible refine W.seq ?_
  with_reducible refine W.region ?_
  refine WL.assign .nil rfl rfl rfl rfl ?_
  with_reducible refine WL.nil ?_
  with_reducible refine Ex.thn_norm ?_
  with_reducible refine W.seq ?_
  with_reducible refine W.seq ?_
  with_reducible refine W.region ?_
  refine WL.move .nil rfl rfl rfl rfl ?_
  refine WL.bin .nil rfl rfl rfl rfl rfl rfl ?_
  with_reducible refine WL.nil ?_
  with_reducible refine Ex.thn_norm ?_
  refine W.condD rfl (fun hc8 => ?_) (fun hc8 => ?_)
  · replace hr := ite_pos hr hc8
    with_reducible refine W.seq ?_
    with_reducible refine W.region ?_
    refine WL.assign .nil rfl rfl rfl rfl ?_
    with_reducible refine WL.nil ?_
    with_reducible refine Ex.thn_norm ?_
    with_reducible refine W.ret ?_
    with_reducible refine Ex.thn_ret ?_
    obtain rfl := Option.some.inj hr
    exact ⟨.inr rfl, _, (.cons (.tmp rfl) .nil), ⟨(Ext.st hE0 hS0), rfl⟩⟩
  · replace hr := ite_neg hr hc8
    with_reducible refine W.skip ?_
    with_reducible refine Ex.thn_norm ?_
    with_reducible refine W.seq ?_
    with_reducible refine W.seq ?_
    with_reducible refine W.region ?_
    refine WL.move .nil rfl rfl rfl rfl ?_
    refine WL.len .nil rfl rfl rfl Try.underlying24 rfl ?_
    refine WL.bin .nil rfl rfl rfl rfl rfl rfl ?_
    with_reducible refine WL.nil ?_
    with_reducible refine Ex.thn_norm ?_
    refine W.condD rfl (fun hc12 => ?_) (fun hc12 => ?_)
    · replace hr := ite_pos hr hc12
      with_reducible refine W.seq ?_
      with_reducible refine W.region ?_
      refine WL.move .nil rfl rfl rfl rfl ?_
      obtain ⟨hc13, hr⟩ := chk_some hr
      refine WL.mulI .nil rfl rfl rfl rfl rfl hc13.1 hc13.2 ?_
      refine WL.move .nil rfl rfl rfl rfl ?_
      obtain ⟨hc14, hr⟩ := chk_some hr
      refine WL.remI .nil rfl rfl rfl rfl rfl hc14.1 hc14.2 ?_
      refine WL.assign .nil rfl rfl rfl rfl ?_
      with_reducible refine WL.nil ?_
      with_reducible refine Ex.thn_norm ?_
      with_reducible refine W.ret ?_
      with_reducible refine Ex.thn_ret ?_
      obtain rfl := Option.some.inj hr
      exact ⟨.inr rfl, _, (.cons (.tmp rfl) .nil), ⟨(Ext.st hE0 hS0), rfl⟩⟩
    · replace hr := ite_neg hr hc12
      with_reducible refine W.skip ?_
      with_reducible refine Ex.thn_norm ?_
      with_reducible refine W.seq ?_
      refine W.regionD [0, 1, 2, 3, 4, 5, 6, 7, 8, 9, 10, 11, 12, 13, 14, 15, 16, 17, 18, 19, 20, 21, 22, 23, 24, 25, 26] [false, false, false, false, false, false, false, false, false, false, false, false, false, false, false, false, false, false, false, false, false, false, false, false, false, false, false] rfl rfl (by kernel_rfl) (by kernel_rfl) (by (conv => lhs; simp only [List.map_cons, List.map_nil, List.getD_cons_zero, List.getD_cons_succ]) <;> rfl) ?_
      refine WL.move .r rfl rfl rfl rfl ?_
      refine WL.move .r rfl rfl rfl rfl ?_
      refine WL.move .r rfl rfl rfl rfl ?_
      refine WL.len .r rfl rfl rfl Try.underlying24 rfl ?_
      obtain ⟨hc15, hr⟩ := chk_some hr
      refine WL.remI .r rfl rfl rfl rfl rfl hc15.1 hc15.2 ?_
      obtain ⟨x16, hx16, hr⟩ := bnd_some hr
      refine GL.index .r rfl rfl rfl Try.underlying24 info5 rfl rfl h4 hS0.fh rfl hx16 (fun b17 kp18 c19 ecs20 hrow21 hwin22 hR23 => ?_)
      have hcs : _ = ([u8 x16] : List Value) := hR23
      subst hcs
      refine WL.load1 .r rfl rfl rfl Try.underlying5 rfl rfl hrow21 ((win_get0 hwin22 (show (0 : Nat) < 1 by decide)).trans rfl) ?_
      refine WL.convN .r rfl rfl rfl Try.underlying5 Try.underlying3 rfl topI64 (u8_bnd _).1 (u8_lt63 _) ?_
      obtain ⟨hc24, hr⟩ := chk_some hr
      refine WL.mulI .r rfl rfl rfl rfl rfl hc24.1 hc24.2 ?_
      refine WL.move .r rfl rfl rfl rfl ?_
      refine WL.move .r rfl rfl rfl rfl ?_
      obtain ⟨hc25, hr⟩ := chk_some hr
      refine WL.addI .r rfl rfl rfl rfl rfl hc25.1 hc25.2 ?_
      refine WL.move .r rfl rfl rfl rfl ?_
      refine WL.len .r rfl rfl rfl Try.underlying24 rfl ?_
      obtain ⟨hc26, hr⟩ := chk_some hr
      refine WL.remI .r rfl rfl rfl rfl rfl hc26.1 hc26.2 ?_
      obtain ⟨x27, hx27, hr⟩ := bnd_some hr
      refine GL.index .r rfl rfl rfl Try.underlying24 info5 rfl rfl h4 hS0.fh rfl hx27 (fun b28 kp29 c30 ecs31 hrow32 hwin33 hR34 => ?_)
      have hcs : _ = ([u8 x27] : List Value) := hR34
      subst hcs
      refine WL.load1 .r rfl rfl rfl Try.underlying5 rfl rfl hrow32 ((win_get0 hwin33 (show (0 : Nat) < 1 by decide)).trans rfl) ?_
      refine WL.convN .r rfl rfl rfl Try.underlying5 Try.underlying3 rfl topI64 (u8_bnd _).1 (u8_lt63 _) ?_
      obtain ⟨hc35, hr⟩ := chk_some hr
      refine WL.addI .r rfl rfl rfl rfl rfl hc35.1 hc35.2 ?_
      refine WL.move .r rfl rfl rfl rfl ?_
      refine WL.move .r rfl rfl rfl rfl ?_
      refine WL.len .r rfl rfl rfl Try.underlying24 rfl ?_
      obtain ⟨hc36, hr⟩ := chk_some hr
      refine WL.quoI .r rfl rfl rfl rfl rfl hc36.1 hc36.2.1 hc36.2.2 ?_
      obtain ⟨hc37, hr⟩ := chk_some hr
      refine WL.addI .r rfl rfl rfl rfl rfl hc37.1 hc37.2 ?_
      refine WL.move .r rfl rfl rfl rfl ?_
      obtain ⟨hc38, hr⟩ := chk_some hr
      refine WL.remI .r rfl rfl rfl rfl rfl hc38.1 hc38.2 ?_
      refine WL.assign .r rfl rfl rfl rfl ?_
      with_reducible refine WL.nil ?_
      with_reducible refine Ex.thn_norm ?_
      with_reducible refine W.ret ?_
      obtain rfl := Option.some.inj hr
      exact ⟨.inr rfl, _, (.cons (.tmp rfl) .nil), ⟨(Ext.st hE0 hS0), rfl⟩⟩
theorem f_laws_FnRecovers_k {Δ : Prims} (g : Env Try.prog Δ) {lo n0 : Nat} {H0 F0 : Heap} (hS : St lo n0 H0 F0) {a2 : Option Addr} {cap3 : Nat} {xs1 : (List UInt8)} {a6 : Option Addr} {cap7 : Nat} {xs5 : (List UInt8)} (h4 : SR F0 (.slice a2 xs1.length cap3) xs1) (h8 : SR F0 (.slice a6 xs5.length cap7) xs5) {res : (Bool)} (hr : f_laws_FnRecovers xs1 xs5 = some res) :
    C Try.prog Δ n0 6 [.slice a2 xs1.length cap3, .slice a6 xs5.length cap7] n0 H0 (fun v n H => St n0 n H F0 ∧ v = .bool res) := by
  refine C.body Try.func6 rfl rfl ?_
  unfold f_laws_FnRecovers at hr
  have hS0 : St n0 n0 H0 F0 := hS.low (Nat.le_refl _)
  have hE0 := Ext.refl n0 F0
  have hlo0 := hS0.lo
  with_reducible refine W.seq ?_
  with_reducible refine W.region ?_
  refine WL.assign .nil rfl rfl rfl rfl ?_
  with_reducible refine WL.nil ?_
  with_reducible refine Ex.thn_norm ?_
  with_reducible refine W.seq ?_
  with_reducible refine W.seq ?_
  refine W.cut (fun fr n H => ∃ (x17 : Bool) (F : Heap), fr = [(0, .slice a2 xs1.length cap3), (1, .slice a6 xs5.length cap7), (25, .bool x17)] ∧ St n0 n H F ∧ Ext n0 F0 n F ∧ SR F (.slice a2 xs1.length cap3) xs1 ∧ SR F (.slice a6 xs5.length cap7) xs5 ∧ f_laws_FnRecovers_J0 xs1 xs5 x17 = some res) ?_ ?_
  · with_reducible refine W.region ?_
    refine WL.move .nil rfl rfl rfl rfl ?_
    refine WL.len .nil rfl rfl rfl Try.underlying24 rfl ?_
    refine WL.bin .nil rfl rfl rfl rfl rfl rfl ?_
    refine WL.move .nil rfl rfl rfl rfl ?_
    refine WL.guardD rfl rfl rfl (fun hg767 => ?_) (fun hg767 => ?_)
    · replace hr := ite_pos hr hg767
      refine WL.skip .nil rfl rfl ?_
      refine WL.skip .nil rfl rfl ?_
      refine WL.skip .nil rfl rfl ?_
      refine WL.pick .nil rfl rfl rfl rfl rfl ?_
      with_reducible refine WL.nil ?_
      with_reducible refine Ex.thn_norm ?_
      exact ⟨[(0, .slice a2 xs1.length cap3), (1, .slice a6 xs5.length cap7), (25, .bool true)], (Fr.le_cons rfl (Fr.le_cons rfl (Fr.le_cons rfl Fr.le_nil))), true, F0, rfl, hS0, hE0, h4, h8, hr⟩
    · replace hr := ite_neg hr hg767
      refine WL.move .nil rfl rfl rfl rfl ?_
      refine WL.len .nil rfl rfl rfl Try.underlying24 rfl ?_
      refine WL.bin .nil rfl rfl rfl rfl rfl rfl ?_
      refine WL.pick .nil rfl rfl rfl rfl rfl ?_
      with_reducible refine WL.nil ?_
      with_reducible refine Ex.thn_norm ?_
      exact ⟨[(0, .slice a2 xs1.length cap3), (1, .slice a6 xs5.length cap7), (25, .bool (decide ((1048576 : Int) < (xs5.length : Int))))], (Fr.le_cons rfl (Fr.le_cons rfl (Fr.le_cons rfl Fr.le_nil))), (decide ((1048576 : Int) < (xs5.length : Int))), F0, rfl, hS0, hE0, h4, h8, hr⟩
  · intro _ n10 H11 hI
    obtain ⟨x17, F12, rfl, hS13, hE14, h15, h16, hr⟩ := hI
    have hlen10 := hE14.le
    have hlon10 := hS13.lo
    unfold f_laws_FnRecovers_J0 at hr
    refine W.cond rfl (fun hc19 => ?_) (fun hc19 => ?_)
    · replace hr := iteB_pos hr hc19
      with_reducible refine W.seq ?_
      with_reducible refine W.region ?_
      refine WL.assign .nil rfl rfl rfl rfl ?_
      with_reducible refine WL.nil ?_
      with_reducible refine Ex.thn_norm ?_
      with_reducible refine W.ret ?_
      with_reducible refine Ex.thn_ret ?_
      obtain rfl := Option.some.inj hr
      exact ⟨.inr rfl, _, (.cons (.tmp rfl) .nil), ⟨(Ext.st hE14 hS13), rfl⟩⟩
    · replace hr := iteB_neg hr hc19
      with_reducible refine W.skip ?_
      with_reducible refine Ex.thn_norm ?_
      with_reducible refine W.seq ?_
      with_reducible refine W.region ?_
      refine WL.move .nil rfl rfl rfl rfl ?_
      obtain ⟨x20, hx20, hr⟩ := bnd_some hr
      refine GL.callP g.good .nil rfl rfl rfl rfl rfl rfl Try.func17 rfl rfl hS13.lo (f_spec_RecordsOf_k  g hS13 h15 hx20) (fun v n21 H22 hn23 hk24 hp25 => ?_)
      obtain ⟨F30, a26, cap27, hX31, hS29, rfl, h28⟩ := hp25
      have hS32 : St n0 n21 H22 F30 := ⟨by have := hS13.lo; omega, hS29.hb, hS29.fh⟩
      have hE33 := (hE14.up (n' := n10) (by omega)).trans hX31
      have hlon21 := hS32.lo
      have h34 := OW.lower (lo' := n0) h28 (by omega)
      refine WL.assign .nil rfl rfl rfl rfl ?_
      with_reducible refine WL.nil ?_
      with_reducible refine Ex.thn_norm ?_
      with_reducible refine W.seq ?_
      with_reducible refine W.region ?_
      refine WL.move .nil rfl rfl rfl rfl ?_
      obtain ⟨F36, hS37, hle38, h39, hf40⟩ := OW.freeze h34 hS32
      have hE41 : Ext n0 F0 n21 F36 := ⟨Nat.le_trans hE33.le (by omega), hE33.sub.trans hle38, fun i hi => (hf40 i (fun hj => by have := OW.id_lt h34 hj; omega)).trans (hE33.eq i hi)⟩
      obtain ⟨x42, hx42, hr⟩ := bnd_some hr
      refine GL.callP g.good .nil rfl rfl rfl rfl rfl rfl Try.func18 rfl rfl hS37.lo (f_laws_join_k  g hS37 h39 hx42) (fun v n43 H44 hn45 hk46 hp47 => ?_)
      obtain ⟨a48, cap49, hS51, rfl, h50⟩ := hp47
      have hS52 : St n0 n43 H44 F36 := ⟨by have := hS37.lo; omega, hS51.hb, hS51.fh⟩
      have hlon43 := hS52.lo
      have h53 := OW.lower (lo' := n0) h50 (by omega)
      refine WL.assign .nil rfl rfl rfl rfl ?_
      with_reducible refine WL.nil ?_
      with_reducible refine Ex.thn_norm ?_
      with_reducible refine W.seq ?_
      with_reducible refine W.region ?_
      refine WL.move .nil rfl rfl rfl rfl ?_
      refine WL.move .nil rfl rfl rfl rfl ?_
      refine WL.len .nil rfl rfl rfl Try.underlying24 rfl ?_
      obtain ⟨hc55, hr⟩ := chk_some hr
      refine WL.addI .nil rfl rfl rfl rfl rfl hc55.1 hc55.2 ?_
      obtain ⟨x56, hx56, hr⟩ := bnd_some hr
      have hb62 := fun b hb => (OW.id_lt (i := b) h53 hb).2
      refine GL.callP g.good .nil rfl rfl rfl rfl rfl rfl Try.func19 rfl rfl hS52.lo (f_laws_at_k  g hS52 ((h16.mono hX31.sub).mono hle38) hx56) (fun v n57 H58 hn59 hk60 hp61 => ?_)
      obtain ⟨hS63, rfl⟩ := hp61
      have h64 := OW.keep (n' := n57) h53 (by omega) (fun i hi => hk60 i (OW.id_lt h53 hi).2)
      have hS65 : St n0 n57 H58 F36 := ⟨by have := hS52.lo; omega, hS63.hb, hS63.fh⟩
      have hlon57 := hS65.lo
      refine WL.assign .nil rfl rfl rfl rfl ?_
      with_reducible refine WL.nil ?_
      with_reducible refine Ex.thn_norm ?_
      with_reducible refine W.seq ?_
      with_reducible refine W.region ?_
      refine WL.assign .nil rfl rfl rfl rfl ?_
      with_reducible refine WL.nil ?_
      with_reducible refine Ex.thn_norm ?_
      with_reducible refine W.seq ?_
      with_reducible refine W.region ?_
      have hb70 := fun b hb => (OW.id_lt (i := b) h64 hb).2
      refine GL.lit (cs := []) (xs := ([] : List UInt8)) hS65 .nil rfl rfl rfl Try.underlying24 info5 rfl rfl rfl (by decide) (by decide) rfl rfl rfl rfl rfl RA.nil rfl (fun H66 hS67 hO68 hk69 => ?_)
      have h71 := OW.keep (n' := (n57 + 1)) h64 (by omega) (fun i hi => hk69 i (OW.id_lt h64 hi).2)
      have h72 := OW.lower (lo' := n0) hO68 (by omega)
      have hlon571 := hS67.lo
      have ap74 : ∀ b, idOf (.slice (some ⟨n57, 0, none⟩) ([] : List UInt8).length 0) = some b → idOf (.slice a48 x42.length cap49) ≠ some b := fun b hj hi => by have := (OW.id_lt hO68 hj).1; have := hb70 b hi; omega
      refine WL.assign .nil rfl rfl rfl rfl ?_
      with_reducible refine WL.nil ?_
      with_reducible refine Ex.thn_norm ?_
      with_reducible refine W.seq ?_
      with_reducible refine W.block ?_
      refine W.loopF (fun k1 fr n H => ∃ (x467 : Int) (a468 : Option Addr) (cap469 : Nat) (xs470 : (List UInt8)) (F : Heap), fr = [(5, .slice a26 x20.length cap27), (6, .slice a48 x42.length cap49), (7, .int .i64 x56), (8, .int .i64 x467), (9, .slice a468 xs470.length cap469)] ∧ St n0 n H F ∧ Ext n0 F0 n F ∧ SR F (.slice a26 x20.length cap27) x20 ∧ OW n0 n H F (.slice a48 x42.length cap49) x42 ∧ OW n0 n H F (.slice a468 xs470.length cap469) xs470 ∧ (∀ b, idOf (.slice a468 xs470.length cap469) = some b → idOf (.slice a48 x42.length cap49) ≠ some b) ∧ f_laws_FnRecovers_L1 x20 x42 x56 k1 x467 xs470 = some res) BIG (fr0 := [(5, .slice a26 x20.length cap27), (6, .slice a48 x42.length cap49), (7, .int .i64 x56), (8, .int .i64 0), (9, .slice (some ⟨n57, 0, none⟩) ([] : List UInt8).length 0)]) (Fr.le_cons rfl (Fr.le_cons rfl (Fr.le_cons rfl (Fr.le_cons rfl (Fr.le_cons rfl Fr.le_nil))))) ?_ ?_ ?_
      · exact ⟨0, (some ⟨n57, 0, none⟩), 0, ([] : List UInt8), F36, rfl, hS67, (hE41.up (by omega)), h39, h71, h72, ap74, hr⟩
      · intro fr n H hI
        obtain ⟨x467, a468, cap469, xs470, F462, hfr, hS463, hE464, h465, h466, h471, ap473, hr⟩ := hI
        rw [f_laws_FnRecovers_L1] at hr
        cases hr
      · intro k1 _ n460 H461 hI
        obtain ⟨x467, a468, cap469, xs470, F462, rfl, hS463, hE464, h465, h466, h471, ap473, hr⟩ := hI
        have hlen460 := hE464.le
        have hlon460 := hS463.lo
        rw [f_laws_FnRecovers_L1] at hr
        with_reducible refine W.seq ?_
        with_reducible refine W.seq ?_
        refine W.cut (fun fr n H => ∃ (x495 : Bool) (F : Heap), fr = [(5, .slice a26 x20.length cap27), (6, .slice a48 x42.length cap49), (7, .int .i64 x56), (8, .int .i64 x467), (9, .slice a468 xs470.length cap469), (51, .bool x495)] ∧ St n0 n H F ∧ Ext n0 F0 n F ∧ SR F (.slice a26 x20.length cap27) x20 ∧ OW n0 n H F (.slice a48 x42.length cap49) x42 ∧ OW n0 n H F (.slice a468 xs470.length cap469) xs470 ∧ (∀ b, idOf (.slice a468 xs470.length cap469) = some b → idOf (.slice a48 x42.length cap49) ≠ some b) ∧ f_laws_FnRecovers_J2 x20 x467 xs470 (f_laws_FnRecovers_L1 x20 x42 x56 k1) x42 x56 x495 = some res) ?_ ?_
        · with_reducible refine W.region ?_
          refine WL.move .nil rfl rfl rfl rfl ?_
          refine WL.move .nil rfl rfl rfl rfl ?_
          refine WL.len .nil rfl rfl rfl Try.underlying48 rfl ?_
          refine WL.bin .nil rfl rfl rfl rfl rfl rfl ?_
          refine WL.move .nil rfl rfl rfl rfl ?_
          refine WL.guardD rfl rfl rfl (fun hg754 => ?_) (fun hg754 => ?_)
          · replace hr := ite_pos hr hg754
            refine WL.move .nil rfl rfl rfl rfl ?_
            refine WL.len .nil rfl rfl rfl Try.underlying24 rfl ?_
            refine WL.move .nil rfl rfl rfl rfl ?_
            refine WL.move .nil rfl rfl rfl rfl ?_
            obtain ⟨x755, hx755, hr⟩ := bnd_some hr
            refine GL.index .nil rfl rfl rfl Try.underlying48 info24 rfl rfl h465 hS463.fh rfl hx755 (fun b756 kp757 c758 ecs759 hrow760 hwin761 hR762 => ?_)
            obtain ⟨_, hcs, h765⟩ := hR762
            obtain ⟨a763, cap764, rfl⟩ := SR.form h765
            subst hcs
            refine WL.load1 .nil rfl rfl rfl Try.underlying24 rfl rfl hrow760 ((win_get0 hwin761 (show (0 : Nat) < 1 by decide)).trans rfl) ?_
            refine WL.len .nil rfl rfl rfl Try.underlying24 rfl ?_
            obtain ⟨hc766, hr⟩ := chk_some hr
            refine WL.addI .nil rfl rfl rfl rfl rfl hc766.1 hc766.2 ?_
            refine WL.move .nil rfl rfl rfl rfl ?_
            refine WL.bin .nil rfl rfl rfl rfl rfl rfl ?_
            refine WL.pick .nil rfl rfl rfl rfl rfl ?_
            with_reducible refine WL.nil ?_
            with_reducible refine Ex.thn_norm ?_
            exact ⟨[(5, .slice a26 x20.length cap27), (6, .slice a48 x42.length cap49), (7, .int .i64 x56), (8, .int .i64 x467), (9, .slice a468 xs470.length cap469), (51, .bool (decide (((xs470.length : Int) + (x755.length : Int)) ≤ x56)))], (Fr.le_cons rfl (Fr.le_cons rfl (Fr.le_cons rfl (Fr.le_cons rfl (Fr.le_cons rfl (Fr.le_cons rfl Fr.le_nil)))))), (decide (((xs470.length : Int) + (x755.length : Int)) ≤ x56)), F462, rfl, hS463, hE464, h465, h466, h471, ap473, hr⟩
          · replace hr := ite_neg hr hg754
            refine WL.skip .nil rfl rfl ?_
            refine WL.skip .nil rfl rfl ?_
            refine WL.skip .nil rfl rfl ?_
            refine WL.skip .nil rfl rfl ?_
            refine WL.skip .nil rfl rfl ?_
            refine WL.skip .nil rfl rfl ?_
            refine WL.skip .nil rfl rfl ?_
            refine WL.skip .nil rfl rfl ?_
            refine WL.skip .nil rfl rfl ?_
            refine WL.skip .nil rfl rfl ?_
            refine WL.pick .nil rfl rfl rfl rfl rfl ?_
            with_reducible refine WL.nil ?_
            with_reducible refine Ex.thn_norm ?_
            exact ⟨[(5, .slice a26 x20.length cap27), (6, .slice a48 x42.length cap49), (7, .int .i64 x56), (8, .int .i64 x467), (9, .slice a468 xs470.length cap469), (51, .bool false)], (Fr.le_cons rfl (Fr.le_cons rfl (Fr.le_cons rfl (Fr.le_cons rfl (Fr.le_cons rfl (Fr.le_cons rfl Fr.le_nil)))))), false, F462, rfl, hS463, hE464, h465, h466, h471, ap473, hr⟩
        · intro _ n487 H488 hI
          obtain ⟨x495, F489, rfl, hS490, hE491, h492, h493, h494, ap496, hr⟩ := hI
          have hlen487 := hE491.le
          have hlon487 := hS490.lo
          unfold f_laws_FnRecovers_J2 at hr
          refine W.cond rfl (fun hc498 => ?_) (fun hc498 => ?_)
          · replace hr := iteB_pos hr hc498
            with_reducible refine W.skip ?_
            with_reducible refine Ex.thn_norm ?_
            with_reducible refine W.block ?_
            with_reducible refine W.seq ?_
            with_reducible refine W.region ?_
            refine WL.move .nil rfl rfl rfl rfl ?_
            refine WL.move .nil rfl rfl rfl rfl ?_
            refine WL.move .nil rfl rfl rfl rfl ?_
            obtain ⟨x499, hx499, hr⟩ := bnd_some hr
            refine GL.index .nil rfl rfl rfl Try.underlying48 info24 rfl rfl h492 hS490.fh rfl hx499 (fun b500 kp501 c502 ecs503 hrow504 hwin505 hR506 => ?_)
            obtain ⟨_, hcs, h509⟩ := hR506
            obtain ⟨a507, cap508, rfl⟩ := SR.form h509
            subst hcs
            refine WL.load1 .nil rfl rfl rfl Try.underlying24 rfl rfl hrow504 ((win_get0 hwin505 (show (0 : Nat) < 1 by decide)).trans rfl) ?_
            obtain ⟨hc510, hr⟩ := chk_some hr
            have hb520 := fun b hb => (OW.id_lt (i := b) h493 hb).2
            have hb521 := fun b hb => (OW.id_lt (i := b) h494 hb).2
            refine GL.append (α := UInt8) hS490 .nil rfl rfl rfl Try.underlying24 Try.underlying24 rfl info5 rfl rfl rfl (by decide) rfl rfl h494 (by omega) (by omega) (SR.src h509 hS490.fh) hc510 (fun a511 cap512 n513 H514 hS515 hn516 hO517 hk518 hid519 => ?_)
            have h522 := OW.keep h493 hn516 (fun i hi => hk518 i (OW.id_lt h493 hi).2 (fun hj => ap496 _ hj hi))
            have ap524 : ∀ b, idOf (.slice a511 (xs470 ++ x499).length cap512) = some b → idOf (.slice a48 x42.length cap49) ≠ some b := fun b hj hi => (hid519 _ hj).elim (fun h => by have := hb520 b hi; omega) (fun h => ap496 _ h hi)
            have hlon513 := hS515.lo
            refine WL.assign .nil rfl rfl rfl rfl ?_
            with_reducible refine WL.nil ?_
            with_reducible refine Ex.thn_norm ?_
            with_reducible refine W.region ?_
            refine WL.move .nil rfl rfl rfl rfl ?_
            obtain ⟨hc525, hr⟩ := chk_some hr
            refine WL.addI .nil rfl rfl rfl rfl rfl hc525.1 hc525.2 ?_
            refine WL.assign .nil rfl rfl rfl rfl ?_
            with_reducible refine WL.nil ?_
            with_reducible refine Ex.blk_norm ?_
            with_reducible refine Ex.thn_norm ?_
            exact ⟨[(5, .slice a26 x20.length cap27), (6, .slice a48 x42.length cap49), (7, .int .i64 x56), (8, .int .i64 (x467 + 1)), (9, .slice a511 (xs470 ++ x499).length cap512)], (Fr.le_cons rfl (Fr.le_cons rfl (Fr.le_cons rfl (Fr.le_cons rfl (Fr.le_cons rfl Fr.le_nil))))), (x467 + 1), a511, cap512, (xs470 ++ x499), F489, rfl, hS515, (hE491.up (by omega)), h492, h522, hO517, ap524, hr⟩
          · replace hr := iteB_neg hr hc498
            with_reducible refine W.exit ?_
            with_reducible refine Ex.thn_ex ?_
            with_reducible refine Ex.thn_ex ?_
            with_reducible refine Ex.blk_here ?_
            with_reducible refine Ex.thn_norm ?_
            with_reducible refine W.seq ?_
            with_reducible refine W.region ?_
            refine WL.move .nil rfl rfl rfl rfl ?_
            refine WL.move .nil rfl rfl rfl rfl ?_
            obtain ⟨F526, hS527, hle528, h529, hf530⟩ := OW.freeze h493 hS490
            have h531 := OW.keepF h494 hle528 (fun i hi => (hf530 i (fun hj => (fun b h1 h2 => ap496 b h2 h1) i hj hi)).trans (OW.fnone h494 hi))
            have hE532 : Ext n0 F0 n487 F526 := ⟨Nat.le_trans hE491.le (by omega), hE491.sub.trans hle528, fun i hi => (hf530 i (fun hj => by have := OW.id_lt h493 hj; omega)).trans (hE491.eq i hi)⟩
            obtain ⟨xs533, hxs533, hr⟩ := bnd_some hr
            refine GL.slice .nil rfl rfl rfl Try.underlying24 info5 rfl rfl h529 hS527.fh rfl ⟨_, rfl⟩ hxs533 (fun a534 cap535 hid536 h537 => ?_)
            obtain ⟨x538, hx538, hr⟩ := bnd_some hr
            have hb544 := fun b hb => (OW.id_lt (i := b) h531 hb).2
            refine GL.callP g.good .nil rfl rfl rfl rfl rfl rfl Try.func14 rfl rfl hS527.lo (f_impl_Recover_k  g hS527 h537 hx538) (fun v n539 H540 hn541 hk542 hp543 => ?_)
            obtain ⟨F549, a545, cap546, hX550, hS548, rfl, h547⟩ := hp543
            have h551 := OW.keep (n' := n539) h531 (by omega) (fun i hi => hk542 i (OW.id_lt h531 hi).2)
            have hS552 : St n0 n539 H540 F549 := ⟨by have := hS527.lo; omega, hS548.hb, hS548.fh⟩
            have h553 := OW.keepF h551 hX550.sub (fun i hi => (hX550.eq i (by have := OW.id_lt h531 hi; omega)).trans (OW.fnone h551 hi))
            have hE554 := (hE532.up (n' := n487) (by omega)).trans hX550
            have hlon539 := hS552.lo
            refine WL.move .nil rfl rfl rfl rfl ?_
            refine WL.extract .nil rfl rfl rfl rfl rfl ?_
            refine WL.extract .nil rfl rfl rfl rfl rfl ?_
            refine GL.alloc hS552 .nil (zc := [.int .i64 0, .int .i64 0, .int .i64 0, .int .i64 0, .slice none 0 0, .int .i64 0]) rfl rfl rfl info40 rfl rfl rfl (fun H555 hS556 ho557 hk558 => ?_)
            have fo559 := hS552.fnone (Nat.le_refl _)
            have ap561 : idOf (.slice a468 xs470.length cap469) ≠ some n539 := fun hj => by have := OW.id_lt h553 hj; omega
            have h562 := OW.keep (n' := (n539 + 1)) h553 (by omega) (fun i hi => hk558 i (OW.id_lt h553 hi).2)
            have hlon5391 := hS556.lo
            have lt560 : n539 < (n539 + 1) := by omega
            refine GL.store hS556 .nil (vc := [.int .i64 x538.1.Term, .int .i64 x538.1.Vote, .int .i64 x538.1.Base, .int .i64 x538.1.BaseTerm, .slice a545 x538.1.Log.length cap546, .int .i64 x538.1.Good]) (c' := [.int .i64 x538.1.Term, .int .i64 x538.1.Vote, .int .i64 x538.1.Base, .int .i64 x538.1.BaseTerm, .slice a545 x538.1.Log.length cap546, .int .i64 x538.1.Good]) rfl rfl rfl info40 rfl rfl rfl rfl ho557 fo559 (Nat.le_of_ble_eq_true rfl) (by omega) (by repeat' (first | exact List.forall_mem_nil _ | refine List.forall_mem_cons.2 ⟨?_, ?_⟩ | rfl)) rfl (fun H563 hS564 ho565 hk566 => ?_)
            have h567 := OW.keep h562 (Nat.le_refl _) (fun i hi => hk566 i (fun hj => ap561 (hj ▸ hi)))
            refine WL.assign .nil rfl rfl rfl rfl ?_
            with_reducible refine WL.nil ?_
            with_reducible refine Ex.thn_norm ?_
            with_reducible refine W.seq ?_
            with_reducible refine W.region ?_
            refine WL.move .nil rfl rfl rfl rfl ?_
            obtain ⟨F568, hS569, hle570, h571, hf572⟩ := OW.freeze h567 hS564
            have fo573 := (hf572 _ ap561).trans fo559
            have hE574 : Ext n0 F0 (n539 + 1) F568 := ⟨Nat.le_trans hE554.le (by omega), hE554.sub.trans hle570, fun i hi => (hf572 i (fun hj => by have := OW.id_lt h567 hj; omega)).trans (hE554.eq i hi)⟩
            obtain ⟨x575, hx575, hr⟩ := bnd_some hr
            refine GL.callP g.good .nil rfl rfl rfl rfl rfl rfl Try.func14 rfl rfl hS569.lo (f_impl_Recover_k  g hS569 h571 hx575) (fun v n576 H577 hn578 hk579 hp580 => ?_)
            obtain ⟨F585, a581, cap582, hX586, hS584, rfl, h583⟩ := hp580
            have ho587 := (hk579 _ (by have := lt560; omega)).trans ho565
            have hS588 : St n0 n576 H577 F585 := ⟨by have := hS569.lo; omega, hS584.hb, hS584.fh⟩
            have fo589 := (hX586.eq _ (by have := lt560; omega)).trans fo573
            have hE590 := (hE574.up (n' := (n539 + 1)) (by omega)).trans hX586
            have hlon576 := hS588.lo
            refine WL.move .nil rfl rfl rfl rfl ?_
            refine WL.extract .nil rfl rfl rfl rfl rfl ?_
            refine WL.extract .nil rfl rfl rfl rfl rfl ?_
            refine GL.alloc hS588 .nil (zc := [.int .i64 0, .int .i64 0, .int .i64 0, .int .i64 0, .slice none 0 0, .int .i64 0]) rfl rfl rfl info40 rfl rfl rfl (fun H591 hS592 ho593 hk594 => ?_)
            have fo595 := hS588.fnone (Nat.le_refl _)
            have ho597 := (hk594 _ (by have := lt560; omega)).trans ho587
            have hlon5761 := hS592.lo
            have lt596 : n576 < (n576 + 1) := by omega
            refine GL.store hS592 .nil (vc := [.int .i64 x575.1.Term, .int .i64 x575.1.Vote, .int .i64 x575.1.Base, .int .i64 x575.1.BaseTerm, .slice a581 x575.1.Log.length cap582, .int .i64 x575.1.Good]) (c' := [.int .i64 x575.1.Term, .int .i64 x575.1.Vote, .int .i64 x575.1.Base, .int .i64 x575.1.BaseTerm, .slice a581 x575.1.Log.length cap582, .int .i64 x575.1.Good]) rfl rfl rfl info40 rfl rfl rfl rfl ho593 fo595 (Nat.le_of_ble_eq_true rfl) (by omega) (by repeat' (first | exact List.forall_mem_nil _ | refine List.forall_mem_cons.2 ⟨?_, ?_⟩ | rfl)) rfl (fun H598 hS599 ho600 hk601 => ?_)
            have ho602 := (hk601 _ (by omega)).trans ho597
            refine WL.assign .nil rfl rfl rfl rfl ?_
            with_reducible refine WL.nil ?_
            with_reducible refine Ex.thn_norm ?_
            with_reducible refine W.seq ?_
            with_reducible refine W.region ?_
            refine WL.move .nil rfl rfl rfl rfl ?_
            refine WL.move .nil rfl rfl rfl rfl ?_
            obtain ⟨xs603, hxs603, hr⟩ := bnd_some hr
            refine GL.slice .nil rfl rfl rfl Try.underlying24 info5 rfl rfl (((h529.mono hX550.sub).mono hle570).mono hX586.sub) hS599.fh rfl ⟨_, rfl⟩ hxs603 (fun a604 cap605 hid606 h607 => ?_)
            obtain ⟨x608, hx608, hr⟩ := bnd_some hr
            refine GL.callP g.good .nil rfl rfl rfl rfl rfl rfl Try.func15 rfl rfl hS599.lo (f_spec_Recover_k  g hS599 h607 hx608) (fun v n609 H610 hn611 hk612 hp613 => ?_)
            obtain ⟨F618, a614, cap615, hX619, hS617, rfl, h616⟩ := hp613
            have ho620 := (hk612 _ (by have := lt560; omega)).trans ho602
            have ho621 := (hk612 _ (by have := lt596; omega)).trans ho600
            have hS622 : St n0 n609 H610 F618 := ⟨by have := hS599.lo; omega, hS617.hb, hS617.fh⟩
            have fo623 := (hX619.eq _ (by have := lt560; omega)).trans fo589
            have fo624 := (hX619.eq _ (by have := lt596; omega)).trans fo595
            have hE625 := (hE590.up (n' := (n576 + 1)) (by omega)).trans hX619
            have hlon609 := hS622.lo
            refine WL.move .nil rfl rfl rfl rfl ?_
            refine WL.extract .nil rfl rfl rfl rfl rfl ?_
            refine WL.extract .nil rfl rfl rfl rfl rfl ?_
            refine GL.alloc hS622 .nil (zc := [.int .i64 0, .int .i64 0, .int .i64 0, .int .i64 0, .slice none 0 0, .int .i64 0]) rfl rfl rfl info40 rfl rfl rfl (fun H626 hS627 ho628 hk629 => ?_)
            have fo630 := hS622.fnone (Nat.le_refl _)
            have ho632 := (hk629 _ (by have := lt560; omega)).trans ho620
            have ho633 := (hk629 _ (by have := lt596; omega)).trans ho621
            have hlon6091 := hS627.lo
            have lt631 : n609 < (n609 + 1) := by omega
            refine GL.store hS627 .nil (vc := [.int .i64 x608.1.Term, .int .i64 x608.1.Vote, .int .i64 x608.1.Base, .int .i64 x608.1.BaseTerm, .slice a614 x608.1.Log.length cap615, .int .i64 x608.1.Good]) (c' := [.int .i64 x608.1.Term, .int .i64 x608.1.Vote, .int .i64 x608.1.Base, .int .i64 x608.1.BaseTerm, .slice a614 x608.1.Log.length cap615, .int .i64 x608.1.Good]) rfl rfl rfl info40 rfl rfl rfl rfl ho628 fo630 (Nat.le_of_ble_eq_true rfl) (by omega) (by repeat' (first | exact List.forall_mem_nil _ | refine List.forall_mem_cons.2 ⟨?_, ?_⟩ | rfl)) rfl (fun H634 hS635 ho636 hk637 => ?_)
            have ho638 := (hk637 _ (by omega)).trans ho632
            have ho639 := (hk637 _ (by omega)).trans ho633
            refine WL.assign .nil rfl rfl rfl rfl ?_
            with_reducible refine WL.nil ?_
            with_reducible refine Ex.thn_norm ?_
            with_reducible refine W.seq ?_
            with_reducible refine W.seq ?_
            refine W.cut (fun fr n H => ∃ (x674 : Bool) (F : Heap), fr = [(6, .slice a48 x42.length cap49), (10, .pointer (some ⟨n539, 0, none⟩)), (117, .bool x674)] ∧ St n0 n H F ∧ Ext n0 F0 n F ∧ H n539 = some (.row 1 [.int .i64 x538.1.Term, .int .i64 x538.1.Vote, .int .i64 x538.1.Base, .int .i64 x538.1.BaseTerm, .slice a545 x538.1.Log.length cap546, .int .i64 x538.1.Good]) ∧ F n539 = none ∧ SR F (.slice a48 x42.length cap49) x42 ∧ SR F (.slice a545 x538.1.Log.length cap546) x538.1.Log ∧ f_laws_FnRecovers_J3 x42 x538 x674 = some res) ?_ ?_
            · with_reducible refine W.region ?_
              refine WL.move .nil rfl rfl rfl rfl ?_
              refine WL.bin .nil rfl rfl rfl rfl rfl rfl ?_
              refine WL.move .nil rfl rfl rfl rfl ?_
              refine WL.guardN rfl rfl rfl (fun hg726 => ?_) (fun hg726 => ?_)
              · replace hr := ite_neg hr hg726
                refine WL.skip .nil rfl rfl ?_
                refine WL.skip .nil rfl rfl ?_
                refine WL.pick .nil rfl rfl rfl rfl rfl ?_
                refine WL.move .nil rfl rfl rfl rfl ?_
                refine WL.skip .nil rfl rfl ?_
                refine WL.skip .nil rfl rfl ?_
                refine WL.skip .nil rfl rfl ?_
                refine WL.skip .nil rfl rfl ?_
                refine WL.pick .nil rfl rfl rfl rfl rfl ?_
                refine WL.move .nil rfl rfl rfl rfl ?_
                refine WL.skip .nil rfl rfl ?_
                refine WL.skip .nil rfl rfl ?_
                refine WL.skip .nil rfl rfl ?_
                refine WL.skip .nil rfl rfl ?_
                refine WL.skip .nil rfl rfl ?_
                refine WL.pick .nil rfl rfl rfl rfl rfl ?_
                refine WL.move .nil rfl rfl rfl rfl ?_
                refine WL.skip .nil rfl rfl ?_
                refine WL.skip .nil rfl rfl ?_
                refine WL.skip .nil rfl rfl ?_
                refine WL.skip .nil rfl rfl ?_
                refine WL.pick .nil rfl rfl rfl rfl rfl ?_
                refine WL.move .nil rfl rfl rfl rfl ?_
                refine WL.skip .nil rfl rfl ?_
                refine WL.skip .nil rfl rfl ?_
                refine WL.skip .nil rfl rfl ?_
                refine WL.skip .nil rfl rfl ?_
                refine WL.skip .nil rfl rfl ?_
                refine WL.pick .nil rfl rfl rfl rfl rfl ?_
                refine WL.move .nil rfl rfl rfl rfl ?_
                refine WL.skip .nil rfl rfl ?_
                refine WL.skip .nil rfl rfl ?_
                refine WL.skip .nil rfl rfl ?_
                refine WL.skip .nil rfl rfl ?_
                refine WL.skip .nil rfl rfl ?_
                refine WL.pick .nil rfl rfl rfl rfl rfl ?_
                with_reducible refine WL.nil ?_
                with_reducible refine Ex.thn_norm ?_
                exact ⟨[(6, .slice a48 x42.length cap49), (10, .pointer (some ⟨n539, 0, none⟩)), (117, .bool true)], (Fr.le_cons rfl (Fr.le_cons rfl (Fr.le_cons rfl Fr.le_nil))), true, F618, rfl, hS635, (hE625.up (by omega)), ho638, fo623, ((((h529.mono hX550.sub).mono hle570).mono hX586.sub).mono hX619.sub), (((h547.mono hle570).mono hX586.sub).mono hX619.sub), hr⟩
              · replace hr := ite_pos hr hg726
                refine WL.move .nil rfl rfl rfl rfl ?_
                refine WL.bin .nil rfl rfl rfl rfl rfl rfl ?_
                refine WL.pick .nil rfl rfl rfl rfl rfl ?_
                refine WL.move .nil rfl rfl rfl rfl ?_
                refine WL.guardN rfl rfl rfl (fun hg727 => ?_) (fun hg727 => ?_)
                · replace hr := ite_neg hr hg727
                  refine WL.skip .nil rfl rfl ?_
                  refine WL.skip .nil rfl rfl ?_
                  refine WL.skip .nil rfl rfl ?_
                  refine WL.skip .nil rfl rfl ?_
                  refine WL.pick .nil rfl rfl rfl rfl rfl ?_
                  refine WL.move .nil rfl rfl rfl rfl ?_
                  refine WL.skip .nil rfl rfl ?_
                  refine WL.skip .nil rfl rfl ?_
                  refine WL.skip .nil rfl rfl ?_
                  refine WL.skip .nil rfl rfl ?_
                  refine WL.skip .nil rfl rfl ?_
                  refine WL.pick .nil rfl rfl rfl rfl rfl ?_
                  refine WL.move .nil rfl rfl rfl rfl ?_
                  refine WL.skip .nil rfl rfl ?_
                  refine WL.skip .nil rfl rfl ?_
                  refine WL.skip .nil rfl rfl ?_
                  refine WL.skip .nil rfl rfl ?_
                  refine WL.pick .nil rfl rfl rfl rfl rfl ?_
                  refine WL.move .nil rfl rfl rfl rfl ?_
                  refine WL.skip .nil rfl rfl ?_
                  refine WL.skip .nil rfl rfl ?_
                  refine WL.skip .nil rfl rfl ?_
                  refine WL.skip .nil rfl rfl ?_
                  refine WL.skip .nil rfl rfl ?_
                  refine WL.pick .nil rfl rfl rfl rfl rfl ?_
                  refine WL.move .nil rfl rfl rfl rfl ?_
                  refine WL.skip .nil rfl rfl ?_
                  refine WL.skip .nil rfl rfl ?_
                  refine WL.skip .nil rfl rfl ?_
                  refine WL.skip .nil rfl rfl ?_
                  refine WL.skip .nil rfl rfl ?_
                  refine WL.pick .nil rfl rfl rfl rfl rfl ?_
                  with_reducible refine WL.nil ?_
                  with_reducible refine Ex.thn_norm ?_
                  exact ⟨[(6, .slice a48 x42.length cap49), (10, .pointer (some ⟨n539, 0, none⟩)), (117, .bool true)], (Fr.le_cons rfl (Fr.le_cons rfl (Fr.le_cons rfl Fr.le_nil))), true, F618, rfl, hS635, (hE625.up (by omega)), ho638, fo623, ((((h529.mono hX550.sub).mono hle570).mono hX586.sub).mono hX619.sub), (((h547.mono hle570).mono hX586.sub).mono hX619.sub), hr⟩
                · replace hr := ite_pos hr hg727
                  refine WL.loadN .nil (l' := [.int .i64 x538.1.Term, .int .i64 x538.1.Vote, .int .i64 x538.1.Base, .int .i64 x538.1.BaseTerm, .slice a545 x538.1.Log.length cap546, .int .i64 x538.1.Good]) rfl rfl rfl Try.underlying40 rfl info40 rfl ho638 rfl rfl ?_
                  refine WL.loadN .nil (l' := [.int .i64 x608.1.Term, .int .i64 x608.1.Vote, .int .i64 x608.1.Base, .int .i64 x608.1.BaseTerm, .slice a614 x608.1.Log.length cap615, .int .i64 x608.1.Good]) rfl rfl rfl Try.underlying40 rfl info40 rfl ho636 rfl rfl ?_
                  obtain ⟨x728, hx728, hr⟩ := bnd_some hr
                  refine GL.callP g.good .nil rfl rfl rfl rfl rfl rfl Try.func16 rfl rfl hS635.lo (f_laws_sameWal_k  g hS635 (((h547.mono hle570).mono hX586.sub).mono hX619.sub) h616 hx728) (fun v n729 H730 hn731 hk732 hp733 => ?_)
                  obtain ⟨hS734, rfl⟩ := hp733
                  have ho735 := (hk732 _ (by have := lt560; omega)).trans ho638
                  have ho736 := (hk732 _ (by have := lt596; omega)).trans ho639
                  have ho737 := (hk732 _ (by have := lt631; omega)).trans ho636
                  have hS738 : St n0 n729 H730 F618 := ⟨by have := hS635.lo; omega, hS734.hb, hS734.fh⟩
                  have hlon729 := hS738.lo
                  refine WL.not .nil rfl rfl rfl rfl ?_
                  refine WL.pick .nil rfl rfl rfl rfl rfl ?_
                  refine WL.move .nil rfl rfl rfl rfl ?_
                  refine WL.guard rfl rfl rfl (fun hg739 => ?_) (fun hg739 => ?_)
                  · replace hr := iteB_pos hr hg739
                    refine WL.skip .nil rfl rfl ?_
                    refine WL.skip .nil rfl rfl ?_
                    refine WL.skip .nil rfl rfl ?_
                    refine WL.skip .nil rfl rfl ?_
                    refine WL.skip .nil rfl rfl ?_
                    refine WL.pick .nil rfl rfl rfl rfl rfl ?_
                    refine WL.move .nil rfl rfl rfl rfl ?_
                    refine WL.skip .nil rfl rfl ?_
                    refine WL.skip .nil rfl rfl ?_
                    refine WL.skip .nil rfl rfl ?_
                    refine WL.skip .nil rfl rfl ?_
                    refine WL.pick .nil rfl rfl rfl rfl rfl ?_
                    refine WL.move .nil rfl rfl rfl rfl ?_
                    refine WL.skip .nil rfl rfl ?_
                    refine WL.skip .nil rfl rfl ?_
                    refine WL.skip .nil rfl rfl ?_
                    refine WL.skip .nil rfl rfl ?_
                    refine WL.skip .nil rfl rfl ?_
                    refine WL.pick .nil rfl rfl rfl rfl rfl ?_
                    refine WL.move .nil rfl rfl rfl rfl ?_
                    refine WL.skip .nil rfl rfl ?_
                    refine WL.skip .nil rfl rfl ?_
                    refine WL.skip .nil rfl rfl ?_
                    refine WL.skip .nil rfl rfl ?_
                    refine WL.skip .nil rfl rfl ?_
                    refine WL.pick .nil rfl rfl rfl rfl rfl ?_
                    with_reducible refine WL.nil ?_
                    with_reducible refine Ex.thn_norm ?_
                    exact ⟨[(6, .slice a48 x42.length cap49), (10, .pointer (some ⟨n539, 0, none⟩)), (117, .bool true)], (Fr.le_cons rfl (Fr.le_cons rfl (Fr.le_cons rfl Fr.le_nil))), true, F618, rfl, hS738, (hE625.up (by omega)), ho735, fo623, ((((h529.mono hX550.sub).mono hle570).mono hX586.sub).mono hX619.sub), (((h547.mono hle570).mono hX586.sub).mono hX619.sub), hr⟩
                  · replace hr := iteB_neg hr hg739
                    refine WL.fieldAddr .nil rfl rfl rfl Try.underlying40 rfl info3 rfl rfl ?_
                    refine WL.load1 .nil rfl rfl rfl Try.underlying3 rfl rfl ho735 rfl ?_
                    refine WL.fieldAddr .nil rfl rfl rfl Try.underlying40 rfl info3 rfl rfl ?_
                    refine WL.load1 .nil rfl rfl rfl Try.underlying3 rfl rfl ho737 rfl ?_
                    refine WL.bin .nil rfl rfl rfl rfl rfl rfl ?_
                    refine WL.pick .nil rfl rfl rfl rfl rfl ?_
                    refine WL.move .nil rfl rfl rfl rfl ?_
                    refine WL.guardN rfl rfl rfl (fun hg740 => ?_) (fun hg740 => ?_)
                    · replace hr := ite_neg hr hg740
                      refine WL.skip .nil rfl rfl ?_
                      refine WL.skip .nil rfl rfl ?_
                      refine WL.skip .nil rfl rfl ?_
                      refine WL.skip .nil rfl rfl ?_
                      refine WL.pick .nil rfl rfl rfl rfl rfl ?_
                      refine WL.move .nil rfl rfl rfl rfl ?_
                      refine WL.skip .nil rfl rfl ?_
                      refine WL.skip .nil rfl rfl ?_
                      refine WL.skip .nil rfl rfl ?_
                      refine WL.skip .nil rfl rfl ?_
                      refine WL.skip .nil rfl rfl ?_
                      refine WL.pick .nil rfl rfl rfl rfl rfl ?_
                      refine WL.move .nil rfl rfl rfl rfl ?_
                      refine WL.skip .nil rfl rfl ?_
                      refine WL.skip .nil rfl rfl ?_
                      refine WL.skip .nil rfl rfl ?_
                      refine WL.skip .nil rfl rfl ?_
                      refine WL.skip .nil rfl rfl ?_
                      refine WL.pick .nil rfl rfl rfl rfl rfl ?_
                      with_reducible refine WL.nil ?_
                      with_reducible refine Ex.thn_norm ?_
                      exact ⟨[(6, .slice a48 x42.length cap49), (10, .pointer (some ⟨n539, 0, none⟩)), (117, .bool true)], (Fr.le_cons rfl (Fr.le_cons rfl (Fr.le_cons rfl Fr.le_nil))), true, F618, rfl, hS738, (hE625.up (by omega)), ho735, fo623, ((((h529.mono hX550.sub).mono hle570).mono hX586.sub).mono hX619.sub), (((h547.mono hle570).mono hX586.sub).mono hX619.sub), hr⟩
                    · replace hr := ite_pos hr hg740
                      refine WL.loadN .nil (l' := [.int .i64 x538.1.Term, .int .i64 x538.1.Vote, .int .i64 x538.1.Base, .int .i64 x538.1.BaseTerm, .slice a545 x538.1.Log.length cap546, .int .i64 x538.1.Good]) rfl rfl rfl Try.underlying40 rfl info40 rfl ho735 rfl rfl ?_
                      refine WL.loadN .nil (l' := [.int .i64 x575.1.Term, .int .i64 x575.1.Vote, .int .i64 x575.1.Base, .int .i64 x575.1.BaseTerm, .slice a581 x575.1.Log.length cap582, .int .i64 x575.1.Good]) rfl rfl rfl Try.underlying40 rfl info40 rfl ho736 rfl rfl ?_
                      obtain ⟨x741, hx741, hr⟩ := bnd_some hr
                      refine GL.callP g.good .nil rfl rfl rfl rfl rfl rfl Try.func16 rfl rfl hS738.lo (f_laws_sameWal_k  g hS738 (((h547.mono hle570).mono hX586.sub).mono hX619.sub) (h583.mono hX619.sub) hx741) (fun v n742 H743 hn744 hk745 hp746 => ?_)
                      obtain ⟨hS747, rfl⟩ := hp746
                      have ho748 := (hk745 _ (by have := lt560; omega)).trans ho735
                      have ho749 := (hk745 _ (by have := lt596; omega)).trans ho736
                      have ho750 := (hk745 _ (by have := lt631; omega)).trans ho737
                      have hS751 : St n0 n742 H743 F618 := ⟨by have := hS738.lo; omega, hS747.hb, hS747.fh⟩
                      have hlon742 := hS751.lo
                      refine WL.not .nil rfl rfl rfl rfl ?_
                      refine WL.pick .nil rfl rfl rfl rfl rfl ?_
                      refine WL.move .nil rfl rfl rfl rfl ?_
                      refine WL.guard rfl rfl rfl (fun hg752 => ?_) (fun hg752 => ?_)
                      · replace hr := iteB_pos hr hg752
                        refine WL.skip .nil rfl rfl ?_
                        refine WL.skip .nil rfl rfl ?_
                        refine WL.skip .nil rfl rfl ?_
                        refine WL.skip .nil rfl rfl ?_
                        refine WL.skip .nil rfl rfl ?_
                        refine WL.pick .nil rfl rfl rfl rfl rfl ?_
                        refine WL.move .nil rfl rfl rfl rfl ?_
                        refine WL.skip .nil rfl rfl ?_
                        refine WL.skip .nil rfl rfl ?_
                        refine WL.skip .nil rfl rfl ?_
                        refine WL.skip .nil rfl rfl ?_
                        refine WL.skip .nil rfl rfl ?_
                        refine WL.pick .nil rfl rfl rfl rfl rfl ?_
                        with_reducible refine WL.nil ?_
                        with_reducible refine Ex.thn_norm ?_
                        exact ⟨[(6, .slice a48 x42.length cap49), (10, .pointer (some ⟨n539, 0, none⟩)), (117, .bool true)], (Fr.le_cons rfl (Fr.le_cons rfl (Fr.le_cons rfl Fr.le_nil))), true, F618, rfl, hS751, (hE625.up (by omega)), ho748, fo623, ((((h529.mono hX550.sub).mono hle570).mono hX586.sub).mono hX619.sub), (((h547.mono hle570).mono hX586.sub).mono hX619.sub), hr⟩
                      · replace hr := iteB_neg hr hg752
                        refine WL.fieldAddr .nil rfl rfl rfl Try.underlying40 rfl info3 rfl rfl ?_
                        refine WL.load1 .nil rfl rfl rfl Try.underlying3 rfl rfl ho748 rfl ?_
                        refine WL.fieldAddr .nil rfl rfl rfl Try.underlying40 rfl info3 rfl rfl ?_
                        refine WL.load1 .nil rfl rfl rfl Try.underlying3 rfl rfl ho749 rfl ?_
                        refine WL.bin .nil rfl rfl rfl rfl rfl rfl ?_
                        refine WL.pick .nil rfl rfl rfl rfl rfl ?_
                        refine WL.move .nil rfl rfl rfl rfl ?_
                        refine WL.guardN rfl rfl rfl (fun hg753 => ?_) (fun hg753 => ?_)
                        · replace hr := ite_neg hr hg753
                          refine WL.skip .nil rfl rfl ?_
                          refine WL.skip .nil rfl rfl ?_
                          refine WL.skip .nil rfl rfl ?_
                          refine WL.skip .nil rfl rfl ?_
                          refine WL.skip .nil rfl rfl ?_
                          refine WL.pick .nil rfl rfl rfl rfl rfl ?_
                          with_reducible refine WL.nil ?_
                          with_reducible refine Ex.thn_norm ?_
                          exact ⟨[(6, .slice a48 x42.length cap49), (10, .pointer (some ⟨n539, 0, none⟩)), (117, .bool true)], (Fr.le_cons rfl (Fr.le_cons rfl (Fr.le_cons rfl Fr.le_nil))), true, F618, rfl, hS751, (hE625.up (by omega)), ho748, fo623, ((((h529.mono hX550.sub).mono hle570).mono hX586.sub).mono hX619.sub), (((h547.mono hle570).mono hX586.sub).mono hX619.sub), hr⟩
                        · replace hr := ite_pos hr hg753
                          refine WL.fieldAddr .nil rfl rfl rfl Try.underlying40 rfl info3 rfl rfl ?_
                          refine WL.load1 .nil rfl rfl rfl Try.underlying3 rfl rfl ho748 rfl ?_
                          refine WL.move .nil rfl rfl rfl rfl ?_
                          refine WL.len .nil rfl rfl rfl Try.underlying24 rfl ?_
                          refine WL.bin .nil rfl rfl rfl rfl rfl rfl ?_
                          refine WL.pick .nil rfl rfl rfl rfl rfl ?_
                          with_reducible refine WL.nil ?_
                          with_reducible refine Ex.thn_norm ?_
                          exact ⟨[(6, .slice a48 x42.length cap49), (10, .pointer (some ⟨n539, 0, none⟩)), (117, .bool (decide ((xs470.length : Int) < x538.1.Good)))], (Fr.le_cons rfl (Fr.le_cons rfl (Fr.le_cons rfl Fr.le_nil))), (decide ((xs470.length : Int) < x538.1.Good)), F618, rfl, hS751, (hE625.up (by omega)), ho748, fo623, ((((h529.mono hX550.sub).mono hle570).mono hX586.sub).mono hX619.sub), (((h547.mono hle570).mono hX586.sub).mono hX619.sub), hr⟩
            · intro _ n668 H669 hI
              obtain ⟨x674, F670, rfl, hS671, hE672, ho676, fo677, h673, h675, hr⟩ := hI
              have lt678 := hS671.lt ho676
              have hlen668 := hE672.le
              have hlon668 := hS671.lo
              unfold f_laws_FnRecovers_J3 at hr
              refine W.cond rfl (fun hc680 => ?_) (fun hc680 => ?_)
              · replace hr := iteB_pos hr hc680
                with_reducible refine W.seq ?_
                with_reducible refine W.region ?_
                refine WL.assign .nil rfl rfl rfl rfl ?_
                with_reducible refine WL.nil ?_
                with_reducible refine Ex.thn_norm ?_
                with_reducible refine W.ret ?_
                with_reducible refine Ex.thn_ret ?_
                obtain rfl := Option.some.inj hr
                exact ⟨.inr rfl, _, (.cons (.tmp rfl) .nil), ⟨(Ext.st hE672 hS671), rfl⟩⟩
              · replace hr := iteB_neg hr hc680
                with_reducible refine W.skip ?_
                with_reducible refine Ex.thn_norm ?_
                with_reducible refine W.seq ?_
                with_reducible refine W.region ?_
                refine WL.move .nil rfl rfl rfl rfl ?_
                refine WL.fieldAddr .nil rfl rfl rfl Try.underlying40 rfl info3 rfl rfl ?_
                refine WL.load1 .nil rfl rfl rfl Try.underlying3 rfl rfl ho676 rfl ?_
                obtain ⟨xs681, hxs681, hr⟩ := bnd_some hr
                refine GL.slice .nil rfl rfl rfl Try.underlying24 info5 rfl rfl h673 hS671.fh rfl ⟨_, rfl⟩ hxs681 (fun a682 cap683 hid684 h685 => ?_)
                obtain ⟨x686, hx686, hr⟩ := bnd_some hr
                refine GL.callP g.good .nil rfl rfl rfl rfl rfl rfl Try.func14 rfl rfl hS671.lo (f_impl_Recover_k  g hS671 h685 hx686) (fun v n687 H688 hn689 hk690 hp691 => ?_)
                obtain ⟨F696, a692, cap693, hX697, hS695, rfl, h694⟩ := hp691
                have ho698 := (hk690 _ (by have := lt678; omega)).trans ho676
                have hS699 : St n0 n687 H688 F696 := ⟨by have := hS671.lo; omega, hS695.hb, hS695.fh⟩
                have fo700 := (hX697.eq _ (by have := lt678; omega)).trans fo677
                have hE701 := (hE672.up (n' := n668) (by omega)).trans hX697
                have hlon687 := hS699.lo
                refine WL.move .nil rfl rfl rfl rfl ?_
                refine WL.extract .nil rfl rfl rfl rfl rfl ?_
                refine WL.extract .nil rfl rfl rfl rfl rfl ?_
                refine GL.alloc hS699 .nil (zc := [.int .i64 0, .int .i64 0, .int .i64 0, .int .i64 0, .slice none 0 0, .int .i64 0]) rfl rfl rfl info40 rfl rfl rfl (fun H702 hS703 ho704 hk705 => ?_)
                have fo706 := hS699.fnone (Nat.le_refl _)
                have ho708 := (hk705 _ (by have := lt678; omega)).trans ho698
                have hlon6871 := hS703.lo
                have lt707 : n687 < (n687 + 1) := by omega
                refine GL.store hS703 .nil (vc := [.int .i64 x686.1.Term, .int .i64 x686.1.Vote, .int .i64 x686.1.Base, .int .i64 x686.1.BaseTerm, .slice a692 x686.1.Log.length cap693, .int .i64 x686.1.Good]) (c' := [.int .i64 x686.1.Term, .int .i64 x686.1.Vote, .int .i64 x686.1.Base, .int .i64 x686.1.BaseTerm, .slice a692 x686.1.Log.length cap693, .int .i64 x686.1.Good]) rfl rfl rfl info40 rfl rfl rfl rfl ho704 fo706 (Nat.le_of_ble_eq_true rfl) (by omega) (by repeat' (first | exact List.forall_mem_nil _ | refine List.forall_mem_cons.2 ⟨?_, ?_⟩ | rfl)) rfl (fun H709 hS710 ho711 hk712 => ?_)
                have ho713 := (hk712 _ (by omega)).trans ho708
                refine WL.assign .nil rfl rfl rfl rfl ?_
                with_reducible refine WL.nil ?_
                with_reducible refine Ex.thn_norm ?_
                with_reducible refine W.seq ?_
                with_reducible refine W.region ?_
                refine WL.move .nil rfl rfl rfl rfl ?_
                refine WL.bin .nil rfl rfl rfl rfl rfl rfl ?_
                refine WL.move .nil rfl rfl rfl rfl ?_
                refine WL.guardD rfl rfl rfl (fun hg714 => ?_) (fun hg714 => ?_)
                · replace hr := ite_pos hr hg714
                  refine WL.loadN .nil (l' := [.int .i64 x686.1.Term, .int .i64 x686.1.Vote, .int .i64 x686.1.Base, .int .i64 x686.1.BaseTerm, .slice a692 x686.1.Log.length cap693, .int .i64 x686.1.Good]) rfl rfl rfl Try.underlying40 rfl info40 rfl ho711 rfl rfl ?_
                  refine WL.loadN .nil (l' := [.int .i64 x538.1.Term, .int .i64 x538.1.Vote, .int .i64 x538.1.Base, .int .i64 x538.1.BaseTerm, .slice a545 x538.1.Log.length cap546, .int .i64 x538.1.Good]) rfl rfl rfl Try.underlying40 rfl info40 rfl ho713 rfl rfl ?_
                  obtain ⟨x715, hx715, hr⟩ := bnd_some hr
                  refine GL.callP g.good .nil rfl rfl rfl rfl rfl rfl Try.func16 rfl rfl hS710.lo (f_laws_sameWal_k  g hS710 h694 (h675.mono hX697.sub) hx715) (fun v n716 H717 hn718 hk719 hp720 => ?_)
                  obtain ⟨hS721, rfl⟩ := hp720
                  have ho722 := (hk719 _ (by have := lt678; omega)).trans ho713
                  have ho723 := (hk719 _ (by have := lt707; omega)).trans ho711
                  have hS724 : St n0 n716 H717 F696 := ⟨by have := hS710.lo; omega, hS721.hb, hS721.fh⟩
                  have hlon716 := hS724.lo
                  refine WL.pick .nil rfl rfl rfl rfl rfl ?_
                  refine WL.move .nil rfl rfl rfl rfl ?_
                  refine WL.guard rfl rfl rfl (fun hg725 => ?_) (fun hg725 => ?_)
                  · replace hr := iteB_pos hr hg725
                    refine WL.fieldAddr .nil rfl rfl rfl Try.underlying40 rfl info3 rfl rfl ?_
                    refine WL.load1 .nil rfl rfl rfl Try.underlying3 rfl rfl ho723 rfl ?_
                    refine WL.fieldAddr .nil rfl rfl rfl Try.underlying40 rfl info3 rfl rfl ?_
                    refine WL.load1 .nil rfl rfl rfl Try.underlying3 rfl rfl ho722 rfl ?_
                    refine WL.bin .nil rfl rfl rfl rfl rfl rfl ?_
                    refine WL.pick .nil rfl rfl rfl rfl rfl ?_
                    refine WL.assign .nil rfl rfl rfl rfl ?_
                    with_reducible refine WL.nil ?_
                    with_reducible refine Ex.thn_norm ?_
                    with_reducible refine W.ret ?_
                    obtain rfl := Option.some.inj hr
                    exact ⟨.inr rfl, _, (.cons (.tmp rfl) .nil), ⟨(Ext.st hE701 hS724), rfl⟩⟩
                  · replace hr := iteB_neg hr hg725
                    refine WL.skip .nil rfl rfl ?_
                    refine WL.skip .nil rfl rfl ?_
                    refine WL.skip .nil rfl rfl ?_
                    refine WL.skip .nil rfl rfl ?_
                    refine WL.skip .nil rfl rfl ?_
                    refine WL.pick .nil rfl rfl rfl rfl rfl ?_
                    refine WL.assign .nil rfl rfl rfl rfl ?_
                    with_reducible refine WL.nil ?_
                    with_reducible refine Ex.thn_norm ?_
                    with_reducible refine W.ret ?_
                    obtain rfl := Option.some.inj hr
                    exact ⟨.inr rfl, _, (.cons (.tmp rfl) .nil), ⟨(Ext.st hE701 hS724), rfl⟩⟩
                · replace hr := ite_neg hr hg714
                  refine WL.skip .nil rfl rfl ?_
                  refine WL.skip .nil rfl rfl ?_
                  refine WL.skip .nil rfl rfl ?_
                  refine WL.pick .nil rfl rfl rfl rfl rfl ?_
                  refine WL.move .nil rfl rfl rfl rfl ?_
                  refine WL.skip .nil rfl rfl ?_
                  refine WL.skip .nil rfl rfl ?_
                  refine WL.skip .nil rfl rfl ?_
                  refine WL.skip .nil rfl rfl ?_
                  refine WL.skip .nil rfl rfl ?_
                  refine WL.pick .nil rfl rfl rfl rfl rfl ?_
                  refine WL.assign .nil rfl rfl rfl rfl ?_
                  with_reducible refine WL.nil ?_
                  with_reducible refine Ex.thn_norm ?_
                  with_reducible refine W.ret ?_
                  obtain rfl := Option.some.inj hr
                  exact ⟨.inr rfl, _, (.cons (.tmp rfl) .nil), ⟨(Ext.st hE701 hS710), rfl⟩⟩
end Go.Proofs.YtbdebjoagckcpaaAb
