import Derived.Test.YtlpcdcpcfeaecaaG02
import Derived.KernelRfl
set_option linter.all false
set_option maxHeartbeats 1000000
set_option maxRecDepth 20000
namespace Go.Proofs.YtlpcdcpcfeaecaaAb
open Go Go.Proofs
def U3 := @Try.underlying3
def U4 := @Try.underlying4
def U5 := @Try.underlying5
def U9 := @Try.underlying9
def U22 := @Try.underlying22
def U24 := @Try.underlying24
def U25 := @Try.underlying25
def U26 := @Try.underlying26
def U27 := @Try.underlying27
def U28 := @Try.underlying28
def U30 := @Try.underlying30
def U31 := @Try.underlying31
def U35 := @Try.underlying35
def U40 := @Try.underlying40
def U42 := @Try.underlying42
def U60 := @Try.underlying60
def U85 := @Try.underlying85
def U88 := @Try.underlying88
def U96 := @Try.underlying96
def U100 := @Try.underlying100
def U115 := @Try.underlying115
theorem f_laws_at_k {Δ : Prims} (g : Env Try.prog Δ) {lo n0 : Nat} {H0 F0 : Heap} (hS : St lo n0 H0 F0) {a2 : Option Addr} {cap3 : Nat} {xs1 : (List UInt8)} {x5 : Int} {x6 : Int} (h4 : SR F0 (.slice a2 xs1.length cap3) xs1) {res : (Int)} (hr : f_laws_at xs1 x5 x6 = some res) :
    C Try.prog Δ n0 13 [.slice a2 xs1.length cap3, iv x5, iv x6] n0 H0 (fun v n H => St n0 n H F0 ∧ v = iv res) := by
 refine C.body Try.func13 rfl rfl ?_
 unfold f_laws_at at hr
 have hS0 : St n0 n0 H0 F0 := hS.low (Nat.le_refl _)
 have hE0 := Ext.refl n0 F0
 have hlo0 := hS0.lo
 refine wS (wR (aN rfl (wN (eT (wS (wS (wR (mN rfl (bN rfl rfl (wN (eT ?_)))))))))))
 refine W.condD rfl (fun hc8 => ?_) (fun hc8 => ?_)
 {
 replace hr := ite_pos hr hc8
 refine wS (wR (aN rfl (wN (eT (W.ret (eR ?_))))))
 obtain rfl := Option.some.inj hr
 exact ⟨.inr rfl, _, (.cons (.tmp rfl) .nil), ⟨(Ext.st hE0 hS0), rfl⟩⟩
 }
 {
 replace hr := ite_neg hr hc8
 refine wK (eT (wS (wS (wR (mN rfl (WL.len .nil rfl rfl rfl U22 rfl (bN rfl rfl (wN (eT ?_)))))))))
 refine W.condD rfl (fun hc12 => ?_) (fun hc12 => ?_)
 {
 replace hr := ite_pos hr hc12
 refine wS (wR (mN rfl ?_))
 obtain ⟨hc13, hr⟩ := chk_some hr
 refine WL.mulI .nil rfl rfl rfl rfl rfl hc13.1 hc13.2 (mN rfl ?_)
 obtain ⟨hc14, hr⟩ := chk_some hr
 refine WL.remI .nil rfl rfl rfl rfl rfl hc14.1 hc14.2 (aN rfl (wN (eT (W.ret (eR ?_)))))
 obtain rfl := Option.some.inj hr
 exact ⟨.inr rfl, _, (.cons (.tmp rfl) .nil), ⟨(Ext.st hE0 hS0), rfl⟩⟩
 }
 {
 replace hr := ite_neg hr hc12
 refine wK (eT (wS ?_))
 refine W.regionD [0, 1, 2, 3, 4, 5, 6, 7, 8, 9, 10, 11, 12, 13, 14, 15, 16, 17, 18, 19, 20, 21, 22, 23, 24, 25, 26] [false, false, false, false, false, false, false, false, false, false, false, false, false, false, false, false, false, false, false, false, false, false, false, false, false, false, false] rfl rfl kr kr mP ?_
 refine mR rfl (mR rfl (mR rfl (WL.len .r rfl rfl rfl U22 rfl ?_)))
 obtain ⟨hc15, hr⟩ := chk_some hr
 refine WL.remI .r rfl rfl rfl rfl rfl hc15.1 hc15.2 ?_
 obtain ⟨x16, hx16, hr⟩ := bnd_some hr
 refine GL.index .r rfl rfl rfl U22 info5 rfl rfl h4 hS0.fh rfl hx16 (fun b17 kp18 c19 ecs20 hrow21 hwin22 hR23 => ?_)
 have hcs : _ = ([u8 x16] : List Value) := hR23
 subst hcs
 refine lR rfl U5 rfl hrow21 ((win_get0 hwin22 (show (0 : Nat) < 1 by decide)).trans rfl) (WL.convN .r rfl rfl rfl U5 U3 rfl topI64 (u8_bnd _).1 (u8_lt63 _) ?_)
 obtain ⟨hc24, hr⟩ := chk_some hr
 refine WL.mulI .r rfl rfl rfl rfl rfl hc24.1 hc24.2 (mR rfl (mR rfl ?_))
 obtain ⟨hc25, hr⟩ := chk_some hr
 refine WL.addI .r rfl rfl rfl rfl rfl hc25.1 hc25.2 (mR rfl (WL.len .r rfl rfl rfl U22 rfl ?_))
 obtain ⟨hc26, hr⟩ := chk_some hr
 refine WL.remI .r rfl rfl rfl rfl rfl hc26.1 hc26.2 ?_
 obtain ⟨x27, hx27, hr⟩ := bnd_some hr
 refine GL.index .r rfl rfl rfl U22 info5 rfl rfl h4 hS0.fh rfl hx27 (fun b28 kp29 c30 ecs31 hrow32 hwin33 hR34 => ?_)
 have hcs : _ = ([u8 x27] : List Value) := hR34
 subst hcs
 refine lR rfl U5 rfl hrow32 ((win_get0 hwin33 (show (0 : Nat) < 1 by decide)).trans rfl) (WL.convN .r rfl rfl rfl U5 U3 rfl topI64 (u8_bnd _).1 (u8_lt63 _) ?_)
 obtain ⟨hc35, hr⟩ := chk_some hr
 refine WL.addI .r rfl rfl rfl rfl rfl hc35.1 hc35.2 (mR rfl (mR rfl (WL.len .r rfl rfl rfl U22 rfl ?_)))
 obtain ⟨hc36, hr⟩ := chk_some hr
 refine WL.quoI .r rfl rfl rfl rfl rfl hc36.1 hc36.2.1 hc36.2.2 ?_
 obtain ⟨hc37, hr⟩ := chk_some hr
 refine WL.addI .r rfl rfl rfl rfl rfl hc37.1 hc37.2 (mR rfl ?_)
 obtain ⟨hc38, hr⟩ := chk_some hr
 refine WL.remI .r rfl rfl rfl rfl rfl hc38.1 hc38.2 (aR rfl (wN (eT (W.ret ?_))))
 obtain rfl := Option.some.inj hr
 exact ⟨.inr rfl, _, (.cons (.tmp rfl) .nil), ⟨(Ext.st hE0 hS0), rfl⟩⟩
 }
 }
theorem f_laws_peers_k {Δ : Prims} (g : Env Try.prog Δ) {lo n0 : Nat} {H0 F0 : Heap} (hS : St lo n0 H0 F0) {a2 : Option Addr} {cap3 : Nat} {xs1 : (List UInt8)} (h4 : SR F0 (.slice a2 xs1.length cap3) xs1) {res : (Int)} (hr : f_laws_peers xs1 = some res) :
    C Try.prog Δ n0 10 [.slice a2 xs1.length cap3] n0 H0 (fun v n H => St n0 n H F0 ∧ v = iv res) := by
 refine C.body Try.func10 rfl rfl ?_
 unfold f_laws_peers at hr
 have hS0 : St n0 n0 H0 F0 := hS.low (Nat.le_refl _)
 have hE0 := Ext.refl n0 F0
 have hlo0 := hS0.lo
 refine wS (wR (aN rfl (wN (eT (wS (wR ?_))))))
 refine GL.lit (cs := [iv 1, iv 3, iv 5, iv 3, iv 2, iv 4, iv 7]) (xs := ([1, 3, 5, 3, 2, 4, 7] : List Int)) hS0 .nil rfl rfl rfl U31 info3 rfl rfl rfl (by decide) (by decide) rfl rfl rfl rfl rfl (RA.cons (cs := [iv 1]) (a := (1 : Int)) rfl (RA.cons (cs := [iv 3]) (a := (3 : Int)) rfl (RA.cons (cs := [iv 5]) (a := (5 : Int)) rfl (RA.cons (cs := [iv 3]) (a := (3 : Int)) rfl (RA.cons (cs := [iv 2]) (a := (2 : Int)) rfl (RA.cons (cs := [iv 4]) (a := (4 : Int)) rfl (RA.cons (cs := [iv 7]) (a := (7 : Int)) rfl RA.nil))))))) rfl (fun H5 hS6 hO7 hk8 => ?_)
 have h9 := OW.lower (lo' := n0) hO7 (by omega)
 have hlon01 := hS6.lo
 refine mN rfl ?_
 obtain ⟨x11, hx11, hr⟩ := bnd_some hr
 refine GL.callP g.good .nil rfl rfl rfl rfl rfl rfl Try.func13 rfl rfl hS6.lo (f_laws_at_k  g hS6 h4 hx11) (fun v n12 H13 hn14 hk15 hp16 => ?_)
 obtain ⟨hS17, rfl⟩ := hp16
 have h18 := kA (n' := n12) h9 hk15
 have hS19 : St n0 n12 H13 F0 := ⟨by have := hS6.lo; omega, hS17.hb, hS17.fh⟩
 have hlon12 := hS19.lo
 obtain ⟨x20, hx20, hr⟩ := bnd_some hr
 refine GL.indexO .nil rfl rfl rfl U31 info3 rfl rfl h18 rfl hx20 (fun b21 kp22 c23 ecs24 hid28 hrow25 hwin26 hR27 hup29 => ?_)
 have hcs : _ = ([iv x20] : List Value) := hR27
 subst hcs
 refine lN rfl U3 rfl hrow25 ((win_get0 hwin26 (show (0 : Nat) < 1 by decide)).trans rfl) (aN rfl (wN (eT (W.ret ?_))))
 obtain rfl := Option.some.inj hr
 exact ⟨.inr rfl, _, (.cons (.tmp rfl) .nil), ⟨(Ext.st hE0 hS19), rfl⟩⟩
theorem f_spec_l00Source_k {Δ : Prims} (g : Env Try.prog Δ) {lo n0 : Nat} {H0 F0 : Heap} (hS : St lo n0 H0 F0) {a2 : Option Addr} {cap3 : Nat} {xs1 : (List UInt8)} (h4 : SR F0 (.slice a2 xs1.length cap3) xs1) {res : (Gl00Src)} (hr : f_spec_l00Source xs1 = some res) :
    C Try.prog Δ n0 35 [.slice a2 xs1.length cap3] n0 H0 (fun v n H => ∃ (F : Heap) (ra5 : OA) (rcap6 : Nat) (rp1 : Nat), Ext n0 F0 n F ∧ St n0 n H F ∧ v = pt rp1 0 ∧ n0 ≤ rp1 ∧ H rp1 = some (.row 1 [.slice ra5 res.code.length rcap6, iv res.at_, iv res.seed]) ∧ F rp1 = none ∧ SR F (.slice ra5 res.code.length rcap6) res.code) := by
 refine C.body Try.func35 rfl rfl ?_
 unfold f_spec_l00Source at hr
 have hS0 : St n0 n0 H0 F0 := hS.low (Nat.le_refl _)
 have hE0 := Ext.refl n0 F0
 have hlo0 := hS0.lo
 refine wS (wR (aN rfl (wN (eT (wS (wR (mN rfl (mN rfl (WL.len .nil rfl rfl rfl U22 rfl ?_)))))))))
 obtain ⟨hc5, hr⟩ := chk_some hr
 refine WL.remI .nil rfl rfl rfl rfl rfl hc5.1 hc5.2 ?_
 refine WL.buildL .nil (cells := [.slice a2 xs1.length cap3, iv 0, iv ((xs1.length : Int) % 1000)]) rfl rfl rfl U96 info96 rfl rfl rfl (by simp only [List.mapM_cons, List.mapM_nil, info22, info3, info3]; rfl) rfl (by first | rfl | ((conv => lhs; simp [splice, fillL, cells_int, cells_bool, cells_string, cells_str, cells_slice, cells_ptr, cells_map, cells_func, cells_nilFunc, cells_nilIface, cells_iface, cells_agg, cells_u8]) <;> rfl)) ?_
 refine GL.box hS0 .nil (vc := [.slice a2 xs1.length cap3, iv 0, iv ((xs1.length : Int) % 1000)]) rfl rfl rfl rfl rfl bxP (fun H6 hS7 ho8 hk9 => ?_)
 have fo10 := hS0.fnone (Nat.le_refl _)
 have hlon01 := hS7.lo
 have lt11 : n0 < (n0 + 1) := by omega
 refine aN rfl (wN (eT (W.ret ?_)))
 obtain rfl := Option.some.inj hr
 exact ⟨.inr rfl, _, (.cons (.tmp rfl) .nil), ⟨F0, a2, cap3, n0, (hE0.up (by omega)), hS7, rfl, (by omega), ho8, fo10, h4⟩⟩
theorem f_spec_l00Src_byte_k {Δ : Prims} (g : Env Try.prog Δ) {lo n0 : Nat} {H0 F0 : Heap} (hS : St lo n0 H0 F0) {p0 : Nat} {x1 : Gl00Src} {ez0 : Nat} {a2 : Option Addr} {cap3 : Nat} (ho5 : H0 p0 = some (.row ez0 [.slice a2 x1.code.length cap3, iv x1.at_, iv x1.seed])) (fo6 : F0 p0 = none) (lo7 : lo ≤ p0) (h4 : SR F0 (.slice a2 x1.code.length cap3) x1.code) {res : (Gl00Src × Int)} (hr : f_spec_l00Src_byte x1 = some res) :
    C Try.prog Δ lo 117 [pt p0 0] n0 H0 (fun v n H => ∃ (F : Heap) (ra1 : OA) (rcap2 : Nat), Ext n0 F0 n F ∧ St lo n H F ∧ H p0 = some (.row ez0 [.slice ra1 res.1.code.length rcap2, iv res.1.at_, iv res.1.seed]) ∧ v = iv res.2 ∧ SR F (.slice ra1 res.1.code.length rcap2) res.1.code) := by
 refine C.body Try.func117 rfl rfl ?_
 unfold f_spec_l00Src_byte at hr
 have hS0 : St lo n0 H0 F0 := hS
 have hE0 := Ext.refl n0 F0
 have hlo0 := hS0.lo
 have lt0 := hS0.lt ho5
 refine wS (wR (aN rfl (wN (eT (wS (wR (mN rfl (zN rfl (fN rfl U96 rfl info3 rfl (lN rfl U3 rfl ho5 rfl ?_))))))))))
 obtain ⟨hc8, hr⟩ := chk_some hr
 refine WL.addI .nil rfl rfl rfl rfl rfl hc8.1 hc8.2 (zN rfl (fN rfl U96 rfl info3 rfl ?_))
 refine GL.store hS0 .nil (vc := [iv (x1.at_ + 1)]) (c' := [.slice a2 x1.code.length cap3, iv (x1.at_ + 1), iv x1.seed]) rfl rfl rfl info3 rfl rfl rfl rfl ho5 fo6 (bl rfl) lo7 (one1 rfl) rfl (fun H9 hS10 ho11 hk12 => ?_)
 refine wN (eT (wS (wS ?_)))
 refine W.regionD r10 f10 rfl rfl kr kr mP ?_
 refine mR rfl (zR rfl (fR rfl U96 rfl info3 rfl (lR rfl U3 rfl ho11 rfl (mR rfl (zR rfl (fR rfl U96 rfl info22 rfl (lR rfl U22 rfl ho11 rfl (WL.len .r rfl rfl rfl U22 rfl (bR rfl rfl (wN (eT ?_)))))))))))
 refine W.condD rfl (fun hc40 => ?_) (fun hc40 => ?_)
 {
 replace hr := ite_pos hr hc40
 refine wS ?_
 refine W.regionD [0, 1, 2, 3, 4, 5, 6, 7, 8, 9, 10, 11, 12, 13, 14, 15, 16, 17, 18, 19, 20, 21, 22, 23] [false, false, false, false, false, false, false, false, false, false, false, false, false, false, false, false, false, false, false, false, false, false, false, true] rfl rfl kr kr mP ?_
 refine mR rfl (mR rfl (zR rfl (fR rfl U96 rfl info3 rfl (lR rfl U3 rfl ho11 rfl ?_))))
 obtain ⟨hc41, hr⟩ := chk_some hr
 refine WL.mulI .r rfl rfl rfl rfl rfl hc41.1 hc41.2 (mR rfl (zR rfl (fR rfl U96 rfl info22 rfl (lR rfl U22 rfl ho11 rfl (mR rfl (zR rfl (fR rfl U96 rfl info3 rfl (lR rfl U3 rfl ho11 rfl ?_))))))))
 obtain ⟨hc42, hr⟩ := chk_some hr
 refine WL.subI .r rfl rfl rfl rfl rfl hc42.1 hc42.2 ?_
 obtain ⟨x43, hx43, hr⟩ := bnd_some hr
 refine GL.index .r rfl rfl rfl U22 info5 rfl rfl h4 hS10.fh rfl hx43 (fun b44 kp45 c46 ecs47 hrow48 hwin49 hR50 => ?_)
 have hcs : _ = ([u8 x43] : List Value) := hR50
 subst hcs
 refine lR rfl U5 rfl hrow48 ((win_get0 hwin49 (show (0 : Nat) < 1 by decide)).trans rfl) (WL.convN .r rfl rfl rfl U5 U3 rfl topI64 (u8_bnd _).1 (u8_lt63 _) ?_)
 obtain ⟨hc51, hr⟩ := chk_some hr
 refine WL.addI .r rfl rfl rfl rfl rfl hc51.1 hc51.2 ?_
 obtain ⟨hc52, hr⟩ := chk_some hr
 refine WL.addI .r rfl rfl rfl rfl rfl hc52.1 hc52.2 ?_
 obtain ⟨hc53, hr⟩ := chk_some hr
 refine WL.remI .r rfl rfl rfl rfl rfl hc53.1 hc53.2 (zR rfl (fR rfl U96 rfl info3 rfl ?_))
 refine GL.store hS10 .w (vc := [iv ((((x1.seed * 31) + (x43.toNat : Int)) + 7) % 2147483648)]) (c' := [.slice a2 x1.code.length cap3, iv (x1.at_ + 1), iv ((((x1.seed * 31) + (x43.toNat : Int)) + 7) % 2147483648)]) rfl rfl rfl info3 rfl rfl rfl rfl ho11 fo6 (bl rfl) lo7 (one1 rfl) rfl (fun H54 hS55 ho56 hk57 => ?_)
 refine wN (eT (wS ?_))
 refine W.regionD r13 f13 rfl rfl kr kr mP ?_
 refine mR rfl (zR rfl (fR rfl U96 rfl info22 rfl (lR rfl U22 rfl ho56 rfl (mR rfl (zR rfl (fR rfl U96 rfl info3 rfl (lR rfl U3 rfl ho56 rfl ?_)))))))
 obtain ⟨hc58, hr⟩ := chk_some hr
 refine WL.subI .r rfl rfl rfl rfl rfl hc58.1 hc58.2 ?_
 obtain ⟨x59, hx59, hr⟩ := bnd_some hr
 refine GL.index .r rfl rfl rfl U22 info5 rfl rfl h4 hS55.fh rfl hx59 (fun b60 kp61 c62 ecs63 hrow64 hwin65 hR66 => ?_)
 have hcs : _ = ([u8 x59] : List Value) := hR66
 subst hcs
 refine lR rfl U5 rfl hrow64 ((win_get0 hwin65 (show (0 : Nat) < 1 by decide)).trans rfl) (WL.convN .r rfl rfl rfl U5 U3 rfl topI64 (u8_bnd _).1 (u8_lt63 _) (aR rfl (wN (eT (W.ret (eR ?_))))))
 obtain rfl := Option.some.inj hr
 exact ⟨.inr rfl, _, (.cons (.tmp rfl) .nil), ⟨F0, a2, cap3, (hE0.up (by omega)), hS55, ho56, rfl, h4⟩⟩
 }
 {
 replace hr := ite_neg hr hc40
 refine wK (eT (wS (wS (wR (mN rfl (zN rfl (fN rfl U96 rfl info3 rfl (lN rfl U3 rfl ho11 rfl (bN rfl rfl (wN (eT ?_)))))))))))
 refine W.condD rfl (fun hc68 => ?_) (fun hc68 => ?_)
 {
 replace hr := ite_pos hr hc68
 refine wS (wR (aN rfl (wN (eT (W.ret (eR ?_))))))
 obtain rfl := Option.some.inj hr
 exact ⟨.inr rfl, _, (.cons (.tmp rfl) .nil), ⟨F0, a2, cap3, (hE0.up (by omega)), hS10, ho11, rfl, h4⟩⟩
 }
 {
 replace hr := ite_neg hr hc68
 refine wK (eT (wS (wR (mN rfl (mN rfl (zN rfl (fN rfl U96 rfl info3 rfl (lN rfl U3 rfl ho11 rfl ?_))))))))
 obtain ⟨hc69, hr⟩ := chk_some hr
 refine WL.mulI .nil rfl rfl rfl rfl rfl hc69.1 hc69.2 ?_
 obtain ⟨hc70, hr⟩ := chk_some hr
 refine WL.addI .nil rfl rfl rfl rfl rfl hc70.1 hc70.2 ?_
 obtain ⟨hc71, hr⟩ := chk_some hr
 refine WL.remI .nil rfl rfl rfl rfl rfl hc71.1 hc71.2 (zN rfl (fN rfl U96 rfl info3 rfl ?_))
 refine GL.store hS10 .nil (vc := [iv (((x1.seed * 1103515245) + 12345) % 2147483648)]) (c' := [.slice a2 x1.code.length cap3, iv (x1.at_ + 1), iv (((x1.seed * 1103515245) + 12345) % 2147483648)]) rfl rfl rfl info3 rfl rfl rfl rfl ho11 fo6 (bl rfl) lo7 (one1 rfl) rfl (fun H72 hS73 ho74 hk75 => ?_)
 refine wN (eT (wS (wR (mN rfl (zN rfl (fN rfl U96 rfl info3 rfl (lN rfl U3 rfl ho74 rfl ?_)))))))
 obtain ⟨hc76, hr⟩ := chk_some hr
 refine WL.quoI .nil rfl rfl rfl rfl rfl hc76.1 hc76.2.1 hc76.2.2 ?_
 obtain ⟨hc77, hr⟩ := chk_some hr
 refine WL.remI .nil rfl rfl rfl rfl rfl hc77.1 hc77.2 (aN rfl (wN (eT (W.ret ?_))))
 obtain rfl := Option.some.inj hr
 exact ⟨.inr rfl, _, (.cons (.tmp rfl) .nil), ⟨F0, a2, cap3, (hE0.up (by omega)), hS73, ho74, rfl, h4⟩⟩
 }
 }
theorem f_spec_l00Src_next_k {Δ : Prims} (g : Env Try.prog Δ) {lo n0 : Nat} {H0 F0 : Heap} (hS : St lo n0 H0 F0) {p0 : Nat} {x1 : Gl00Src} {ez0 : Nat} {a2 : Option Addr} {cap3 : Nat} {x8 : Int} (ho5 : H0 p0 = some (.row ez0 [.slice a2 x1.code.length cap3, iv x1.at_, iv x1.seed])) (fo6 : F0 p0 = none) (lo7 : lo ≤ p0) (h4 : SR F0 (.slice a2 x1.code.length cap3) x1.code) {res : (Gl00Src × Int)} (hr : f_spec_l00Src_next x1 x8 = some res) :
    C Try.prog Δ lo 98 [pt p0 0, iv x8] n0 H0 (fun v n H => ∃ (F : Heap) (ra1 : OA) (rcap2 : Nat), Ext n0 F0 n F ∧ St lo n H F ∧ H p0 = some (.row ez0 [.slice ra1 res.1.code.length rcap2, iv res.1.at_, iv res.1.seed]) ∧ v = iv res.2 ∧ SR F (.slice ra1 res.1.code.length rcap2) res.1.code) := by
 refine C.body Try.func98 rfl rfl ?_
 unfold f_spec_l00Src_next at hr
 have hS0 : St lo n0 H0 F0 := hS
 have hE0 := Ext.refl n0 F0
 have hlo0 := hS0.lo
 have lt0 := hS0.lt ho5
 refine wS (wR (aN rfl (wN (eT (wS (wS (wR (mN rfl (bN rfl rfl (wN (eT ?_)))))))))))
 refine W.condD rfl (fun hc10 => ?_) (fun hc10 => ?_)
 {
 replace hr := ite_pos hr hc10
 refine wS (wR (aN rfl (wN (eT (W.ret (eR ?_))))))
 obtain rfl := Option.some.inj hr
 exact ⟨.inr rfl, _, (.cons (.tmp rfl) .nil), ⟨F0, a2, cap3, (hE0.up (by omega)), hS0, ho5, rfl, h4⟩⟩
 }
 {
 replace hr := ite_neg hr hc10
 refine wK (eT (wS (wS (wR (mN rfl (bN rfl rfl (wN (eT ?_))))))))
 refine W.condD rfl (fun hc35 => ?_) (fun hc35 => ?_)
 {
 replace hr := ite_pos hr hc35
 refine wS (wR (mN rfl ?_))
 obtain ⟨x36, hx36, hr⟩ := bnd_some hr
 refine GL.callIO g .nil (fun i => (F0 i).isSome = true ∨ i = p0) rfl rfl rfl rfl rfl rfl Try.func117 rfl rfl (Nat.le_refl _) hS0.lo (f_spec_l00Src_byte_k (x1 := (⟨x1.code, x1.at_, x1.seed⟩ : Gl00Src)) g (St.vis hS0 (fun i hi => .inl hi)) (vis_get ho5 (.inr (rfl))) fo6 lo7 h4 hx36) (fun v n37 H38 H39 hn40 hp41 hle42 hnew43 hk44 hd45 => ?_)
 obtain ⟨F50, a46, cap47, hX51, hS49, ho52, rfl, h48⟩ := hp41
 have hS53 : St lo n37 H38 _ := sA hS49 hnew43 hle42
 have hE55 := (hE0.up (n' := n0) (by omega)).trans hX51
 have ho56 := hle42 _ _ ho52
 have hlon37 := hS53.lo
 have lt57 := hS53.lt ho56
 refine mN rfl ?_
 obtain ⟨hc58, hr⟩ := chk_some hr
 refine WL.remI .nil rfl rfl rfl rfl rfl hc58.1 hc58.2 (aN rfl (wN (eT (W.ret (eR ?_)))))
 obtain rfl := Option.some.inj hr
 exact ⟨.inr rfl, _, (.cons (.tmp rfl) .nil), ⟨F50, a46, cap47, (hE55.up (by omega)), hS53, ho56, rfl, h48⟩⟩
 }
 {
 replace hr := ite_neg hr hc35
 refine wK (eT (wS (wR (mN rfl ?_))))
 obtain ⟨x59, hx59, hr⟩ := bnd_some hr
 refine GL.callIO g .nil (fun i => (F0 i).isSome = true ∨ i = p0) rfl rfl rfl rfl rfl rfl Try.func117 rfl rfl (Nat.le_refl _) hS0.lo (f_spec_l00Src_byte_k (x1 := (⟨x1.code, x1.at_, x1.seed⟩ : Gl00Src)) g (St.vis hS0 (fun i hi => .inl hi)) (vis_get ho5 (.inr (rfl))) fo6 lo7 h4 hx59) (fun v n60 H61 H62 hn63 hp64 hle65 hnew66 hk67 hd68 => ?_)
 obtain ⟨F73, a69, cap70, hX74, hS72, ho75, rfl, h71⟩ := hp64
 have hS76 : St lo n60 H61 _ := sA hS72 hnew66 hle65
 have fo77 := fA hX74 lt0 fo6
 have hE78 := (hE0.up (n' := n0) (by omega)).trans hX74
 have ho79 := hle65 _ _ ho75
 have hlon60 := hS76.lo
 have lt80 := hS76.lt ho79
 refine aN rfl (wN (eT (wS (wR (mN rfl ?_)))))
 obtain ⟨x81, hx81, hr⟩ := bnd_some hr
 refine GL.callIO g .nil (fun i => (F73 i).isSome = true ∨ i = p0) rfl rfl rfl rfl rfl rfl Try.func117 rfl rfl (Nat.le_refl _) hS76.lo (f_spec_l00Src_byte_k (x1 := (⟨x59.1.code, x59.1.at_, x59.1.seed⟩ : Gl00Src)) g (St.vis hS76 (fun i hi => .inl hi)) (vis_get ho79 (.inr (rfl))) fo77 lo7 h71 hx81) (fun v n82 H83 H84 hn85 hp86 hle87 hnew88 hk89 hd90 => ?_)
 obtain ⟨F95, a91, cap92, hX96, hS94, ho97, rfl, h93⟩ := hp86
 have hS98 : St lo n82 H83 _ := sA hS94 hnew88 hle87
 have fo99 := fA hX96 lt80 fo77
 have hE1 := (hE78.up (n' := n60) (by omega)).trans hX96
 have ho0 := hle87 _ _ ho97
 have hlon82 := hS98.lo
 have lt1 := hS98.lt ho0
 refine aN rfl (wN (eT (wS (wR (mN rfl ?_)))))
 obtain ⟨x0, hx0, hr⟩ := bnd_some hr
 refine GL.callIO g .nil (fun i => (F95 i).isSome = true ∨ i = p0) rfl rfl rfl rfl rfl rfl Try.func117 rfl rfl (Nat.le_refl _) hS98.lo (f_spec_l00Src_byte_k (x1 := (⟨x81.1.code, x81.1.at_, x81.1.seed⟩ : Gl00Src)) g (St.vis hS98 (fun i hi => .inl hi)) (vis_get ho0 (.inr (rfl))) fo99 lo7 h93 hx0) (fun v n1 H1 H2 hn0 hp0 hle0 hnew0 hk0 hd0 => ?_)
 obtain ⟨F1, a0, cap0, hX0, hS1, ho1, rfl, h0⟩ := hp0
 have hS2 : St lo n1 H1 _ := sA hS1 hnew0 hle0
 have hE2 := (hE1.up (n' := n82) (by omega)).trans hX0
 have ho2 := hle0 _ _ ho1
 have hlon0 := hS2.lo
 have lt2 := hS2.lt ho2
 refine aN rfl (wN (eT (wS (wR (mN rfl ?_)))))
 obtain ⟨hc0, hr⟩ := chk_some hr
 refine WL.mulI .nil rfl rfl rfl rfl rfl hc0.1 hc0.2 (mN rfl ?_)
 obtain ⟨hc1, hr⟩ := chk_some hr
 refine WL.mulI .nil rfl rfl rfl rfl rfl hc1.1 hc1.2 ?_
 obtain ⟨hc2, hr⟩ := chk_some hr
 refine WL.addI .nil rfl rfl rfl rfl rfl hc2.1 hc2.2 (mN rfl ?_)
 obtain ⟨hc3, hr⟩ := chk_some hr
 refine WL.addI .nil rfl rfl rfl rfl rfl hc3.1 hc3.2 (mN rfl ?_)
 obtain ⟨hc4, hr⟩ := chk_some hr
 refine WL.remI .nil rfl rfl rfl rfl rfl hc4.1 hc4.2 (aN rfl (wN (eT (W.ret ?_))))
 obtain rfl := Option.some.inj hr
 exact ⟨.inr rfl, _, (.cons (.tmp rfl) .nil), ⟨F1, a0, cap0, (hE2.up (by omega)), hS2, ho2, rfl, h0⟩⟩
 }
 }
theorem f_spec_l00Src_bytes_k {Δ : Prims} (g : Env Try.prog Δ) {lo n0 : Nat} {H0 F0 : Heap} (hS : St lo n0 H0 F0) {p0 : Nat} {x1 : Gl00Src} {ez0 : Nat} {a2 : Option Addr} {cap3 : Nat} {x8 : Int} (ho5 : H0 p0 = some (.row ez0 [.slice a2 x1.code.length cap3, iv x1.at_, iv x1.seed])) (fo6 : F0 p0 = none) (lo7 : lo ≤ p0) (h4 : SR F0 (.slice a2 x1.code.length cap3) x1.code) {res : (Gl00Src × (List UInt8))} (hr : f_spec_l00Src_bytes x1 x8 = some res) :
    C Try.prog Δ lo 115 [pt p0 0, iv x8] n0 H0 (fun v n H => ∃ (F : Heap) (ra1 : OA) (rcap2 : Nat) (ra4 : OA) (rcap5 : Nat), Ext n0 F0 n F ∧ St lo n H F ∧ H p0 = some (.row ez0 [.slice ra1 res.1.code.length rcap2, iv res.1.at_, iv res.1.seed]) ∧ v = .slice ra4 res.2.length rcap5 ∧ SR F (.slice ra1 res.1.code.length rcap2) res.1.code ∧ Ow n0 n H F ra4 rcap5 res.2) := by
 refine C.body Try.func115 rfl rfl ?_
 unfold f_spec_l00Src_bytes at hr
 have hS0 : St lo n0 H0 F0 := hS
 have hE0 := Ext.refl n0 F0
 have hlo0 := hS0.lo
 have lt0 := hS0.lt ho5
 refine wS (wR (aN rfl (wN (eT (wS (wR ?_))))))
 refine GL.lit (cs := []) (xs := ([] : List UInt8)) hS0 .nil rfl rfl rfl U22 info5 rfl rfl rfl (by decide) (by decide) rfl rfl rfl rfl rfl RA.nil rfl (fun H9 hS10 hO11 hk12 => ?_)
 have ho13 := oA hk12 ho5 lt0
 have h14 := OW.lower (lo' := n0) hO11 (by omega)
 have hlon01 := hS10.lo
 refine aN rfl (wN (eT (wS (wS (wR (mN rfl (mN rfl ?_)))))))
 obtain ⟨hc17, hr⟩ := chk_some hr
 refine WL.addI .nil rfl rfl rfl rfl rfl hc17.1 hc17.2 ?_
 obtain ⟨x18, hx18, hr⟩ := bnd_some hr
 refine GL.callIO g .nil (fun i => (F0 i).isSome = true ∨ i = p0) rfl rfl rfl rfl rfl rfl Try.func98 rfl rfl (Nat.le_refl _) hS10.lo (f_spec_l00Src_next_k (x1 := (⟨x1.code, x1.at_, x1.seed⟩ : Gl00Src)) g (St.vis hS10 (fun i hi => .inl hi)) (vis_get ho13 (.inr (rfl))) fo6 lo7 h4 hx18) (fun v n19 H20 H21 hn22 hp23 hle24 hnew25 hk26 hd27 => ?_)
 obtain ⟨F32, a28, cap29, hX33, hS31, ho34, rfl, h30⟩ := hp23
 have hS35 : St lo n19 H20 _ := sA hS31 hnew25 hle24
 have h36 := OW.keep (n' := n19) h14 (by omega) (fun i hi => hk26 i (OW.id_lt h14 hi).2 (oE2 (nF (OW.fnone h14 hi)) (fun h => (Ap.fresh0 (OW.lb hO11) (by have := lt0; omega)) (h ▸ hi))))
 have fo37 := fA hX33 lt0 fo6
 have h38 := OW.keepF h36 hX33.sub (fun i hi => (hX33.eq i (by have := (OW.hb h14) i hi; omega)).trans (OW.fnone h36 hi))
 have hE39 := (hE0.up (n' := (n0 + 1)) (by omega)).trans hX33
 have ho40 := hle24 _ _ ho34
 have hlon19 := hS35.lo
 have lt41 := hS35.lt ho40
 refine aN rfl (wN (eT (W.block ?_)))
 refine W.loopF (fun k0 fr n H => ∃ (a0 : OA) (cap0 : Nat) (xs0 : (List UInt8)) (x0 : Int) (a1 : OA) (cap1 : Nat) (xs1 : (List UInt8)) (x2 : Int) (x3 : Int) (F : Heap), fr = [(0, pt p0 0), (5, .slice a0 xs0.length cap0), (6, iv x0)] ∧ St lo n H F ∧ Ext n0 F0 n F ∧ H p0 = some (.row ez0 [.slice a1 xs1.length cap1, iv x2, iv x3]) ∧ F p0 = none ∧ Ow n0 n H F a0 cap0 xs0 ∧ SR F (.slice a1 xs1.length cap1) xs1 ∧ nP (.slice a0 xs0.length cap0) p0 ∧ f_spec_l00Src_bytes_L0 k0 xs0 x0 xs1 x2 x3 = some res) BIG (fr0 := [(0, pt p0 0), (5, .slice (some ⟨n0, 0, none⟩) ([] : List UInt8).length 0), (6, iv x18.2)]) (fl3) ?_ ?_ ?_
 {
 exact ⟨(some ⟨n0, 0, none⟩), 0, ([] : List UInt8), x18.2, a28, cap29, x18.1.code, x18.1.at_, x18.1.seed, F32, rfl, hS35, hE39, ho40, fo37, h38, h30, (Ap.fresh0 (OW.lb hO11) (by have := lt0; omega)), hr⟩
 }
 {
 intro fr n H hI
 obtain ⟨a0, cap0, xs0, x0, a1, cap1, xs1, x2, x3, F1, hfr, hS1, hE1, ho0, fo0, h0, h1, ap0, hr⟩ := hI
 rw [f_spec_l00Src_bytes_L0] at hr
 cases hr
 }
 {
 intro k0 _ n1 H1 hI
 obtain ⟨a0, cap0, xs0, x0, a1, cap1, xs1, x2, x3, F1, rfl, hS1, hE1, ho0, fo0, h0, h1, ap0, hr⟩ := hI
 have lt1 := hS1.lt ho0
 have hlen0 := hE1.le
 have hlon0 := hS1.lo
 rw [f_spec_l00Src_bytes_L0] at hr
 refine wS (wS (wR (mN rfl (bN rfl rfl (wN (eT ?_))))))
 refine W.condD rfl (fun hc0 => ?_) (fun hc0 => ?_)
 {
 replace hr := ite_pos hr hc0
 refine wK (eT (wS (W.block (wR (mN rfl (mN rfl ?_))))))
 obtain ⟨x4, hx0, hr⟩ := bnd_some hr
 refine GL.callIO g .nil (fun i => (F1 i).isSome = true ∨ i = p0) rfl rfl rfl rfl rfl rfl Try.func98 rfl rfl (Nat.le_refl _) hS1.lo (f_spec_l00Src_next_k (x1 := (⟨xs1, x2, x3⟩ : Gl00Src)) g (St.vis hS1 (fun i hi => .inl hi)) (vis_get ho0 (.inr (rfl))) fo0 lo7 h1 hx0) (fun v n2 H2 H3 hn0 hp0 hle0 hnew0 hk0 hd0 => ?_)
 obtain ⟨F2, a3, cap2, hX0, hS2, ho1, rfl, h2⟩ := hp0
 have hS3 : St lo n2 H2 _ := sA hS2 hnew0 hle0
 have h3 := OW.keep (n' := n2) h0 (by omega) (fun i hi => hk0 i (OW.id_lt h0 hi).2 (oE2 (nF (OW.fnone h0 hi)) (fun h => ap0 (h ▸ hi))))
 have fo1 := fA hX0 lt1 fo0
 have h5 := OW.keepF h3 hX0.sub (fun i hi => (hX0.eq i (by have := (OW.hb h0) i hi; omega)).trans (OW.fnone h3 hi))
 have hE2 := (hE1.up (n' := n1) (by omega)).trans hX0
 have ho2 := hle0 _ _ ho1
 have hlon1 := hS3.lo
 have lt2 := hS3.lt ho2
 refine WL.convB .nil rfl rfl rfl U3 U5 rfl ?_
 refine GL.lit (cs := [u8 (byteOf x4.2)]) (xs := ([(byteOf x4.2)] : List UInt8)) hS3 .nil rfl rfl rfl U22 info5 rfl rfl rfl (by decide) (by decide) rfl rfl rfl rfl rfl (RA.cons (cs := [u8 (byteOf x4.2)]) (a := ((byteOf x4.2) : UInt8)) rfl RA.nil) rfl (fun H4 hS4 hO0 hk1 => ?_)
 have ho3 := oA hk1 ho2 lt2
 have h6 := kA (n' := (n2 + 1)) h5 hk1
 have h7 := OW.lower (lo' := n0) hO0 (by omega)
 have hlon2 := hS4.lo
 obtain ⟨hc1, hr⟩ := chk_some hr
 refine GL.append (α := UInt8) hS4 .nil rfl rfl rfl U22 U22 rfl info5 rfl rfl rfl (by decide) rfl rfl h6 (by omega) (by omega) (OW.src h7) hc1 (fun a4 cap4 n3 H5 hS5 hn1 hO1 hk2 hid0 => ?_)
 have ho4 := (hk2 _ (by have := lt2; omega) ap0).trans ho3
 have hlon3 := hS5.lo
 refine aN rfl (wN (eB (eT (wR (mN rfl ?_)))))
 obtain ⟨hc2, hr⟩ := chk_some hr
 refine WL.subI .nil rfl rfl rfl rfl rfl hc2.1 hc2.2 (aN rfl (wN (eT ?_)))
 exact ⟨[(0, pt p0 0), (5, .slice a4 (xs0 ++ ([(byteOf x4.2)] : List UInt8)).length cap4), (6, iv (x0 - 1))], (fl3), a4, cap4, (xs0 ++ ([(byteOf x4.2)] : List UInt8)), (x0 - 1), a3, cap2, x4.1.code, x4.1.at_, x4.1.seed, F2, rfl, hS5, (hE2.up (by omega)), ho4, fo1, hO1, h2, (Ap.new0 hid0 (by have := lt2; omega) ap0), hr⟩
 }
 {
 replace hr := ite_neg hr hc0
 refine W.exit (eX (eX (eH (eT (wS (wR (mN rfl (aN rfl (wN (eT (W.ret ?_)))))))))))
 obtain rfl := Option.some.inj hr
 exact ⟨.inr rfl, _, (.cons (.tmp rfl) .nil), ⟨F1, a1, cap1, a0, cap0, (hE1.up (by omega)), hS1, ho0, rfl, h1, h0⟩⟩
 }
 }
theorem f_spec_l00Src_calm_k {Δ : Prims} (g : Env Try.prog Δ) {lo n0 : Nat} {H0 F0 : Heap} (hS : St lo n0 H0 F0) {p0 : Nat} {x1 : Gl00Src} {ez0 : Nat} {a2 : Option Addr} {cap3 : Nat} {x8 : Int} (ho5 : H0 p0 = some (.row ez0 [.slice a2 x1.code.length cap3, iv x1.at_, iv x1.seed])) (fo6 : F0 p0 = none) (lo7 : lo ≤ p0) (h4 : SR F0 (.slice a2 x1.code.length cap3) x1.code) {res : (Gl00Src × (List GEvent))} (hr : f_spec_l00Src_calm x1 x8 = some res) :
    C Try.prog Δ lo 96 [pt p0 0, iv x8] n0 H0 (fun v n H => ∃ (F : Heap) (ra1 : OA) (rcap2 : Nat) (ra4 : OA) (rcap5 : Nat), Ext n0 F0 n F ∧ St lo n H F ∧ H p0 = some (.row ez0 [.slice ra1 res.1.code.length rcap2, iv res.1.at_, iv res.1.seed]) ∧ v = .slice ra4 res.2.length rcap5 ∧ SR F (.slice ra1 res.1.code.length rcap2) res.1.code ∧ Ow n0 n H F ra4 rcap5 res.2) := by
 refine C.body Try.func96 rfl rfl ?_
 unfold f_spec_l00Src_calm at hr
 have hS0 : St lo n0 H0 F0 := hS
 have hE0 := Ext.refl n0 F0
 have hlo0 := hS0.lo
 have lt0 := hS0.lt ho5
 refine wS (wR (aN rfl (wN (eT (wS (wR (mN rfl (mN rfl ?_))))))))
 obtain ⟨x9, hx9, hr⟩ := bnd_some hr
 refine GL.callIO g .nil (fun i => (F0 i).isSome = true ∨ i = p0) rfl rfl rfl rfl rfl rfl Try.func98 rfl rfl (Nat.le_refl _) hS0.lo (f_spec_l00Src_next_k (x1 := (⟨x1.code, x1.at_, x1.seed⟩ : Gl00Src)) g (St.vis hS0 (fun i hi => .inl hi)) (vis_get ho5 (.inr (rfl))) fo6 lo7 h4 hx9) (fun v n10 H11 H12 hn13 hp14 hle15 hnew16 hk17 hd18 => ?_)
 obtain ⟨F23, a19, cap20, hX24, hS22, ho25, rfl, h21⟩ := hp14
 have hS26 : St lo n10 H11 _ := sA hS22 hnew16 hle15
 have fo27 := fA hX24 lt0 fo6
 have hE28 := (hE0.up (n' := n0) (by omega)).trans hX24
 have ho29 := hle15 _ _ ho25
 have hlon10 := hS26.lo
 have lt30 := hS26.lt ho29
 refine aN rfl (wN (eT (wS (wR (mN rfl ?_)))))
 refine WL.buildL .nil (cells := [iv 1, iv x9.2, .slice none 0 0]) rfl rfl rfl U24 info24 rfl rfl rfl (by simp only [List.mapM_cons, List.mapM_nil, info3, info3, info22]; rfl) rfl (by first | rfl | ((conv => lhs; simp [splice, fillL, cells_int, cells_bool, cells_string, cells_str, cells_slice, cells_ptr, cells_map, cells_func, cells_nilFunc, cells_nilIface, cells_iface, cells_agg, cells_u8]) <;> rfl)) ?_
 refine GL.lit (cs := [iv 1, iv x9.2, .slice none 0 0]) (xs := ([(⟨1, x9.2, []⟩ : GEvent)] : List GEvent)) hS26 .nil rfl rfl rfl U25 info24 rfl rfl rfl (by decide) (by decide) rfl rfl rfl rfl rfl (RA.cons (cs := [iv 1, iv x9.2, .slice none 0 0]) (a := ((⟨1, x9.2, []⟩ : GEvent) : GEvent)) (GEvent.toR (x := (⟨1, x9.2, []⟩ : GEvent)) SR.nil) RA.nil) rfl (fun H31 hS32 hO33 hk34 => ?_)
 have ho35 := oA hk34 ho29 lt30
 have h36 := OW.lower (lo' := n0) hO33 (by omega)
 have hlon0 := hS32.lo
 refine aN rfl (wN (eT (wS (wS (wR (mN rfl ?_))))))
 obtain ⟨x39, hx39, hr⟩ := bnd_some hr
 refine GL.callIO g .nil (fun i => (F23 i).isSome = true ∨ i = p0) rfl rfl rfl rfl rfl rfl Try.func98 rfl rfl (Nat.le_refl _) hS32.lo (f_spec_l00Src_next_k (x1 := (⟨x9.1.code, x9.1.at_, x9.1.seed⟩ : Gl00Src)) g (St.vis hS32 (fun i hi => .inl hi)) (vis_get ho35 (.inr (rfl))) fo27 lo7 h21 hx39) (fun v n40 H41 H42 hn43 hp44 hle45 hnew46 hk47 hd48 => ?_)
 obtain ⟨F53, a49, cap50, hX54, hS52, ho55, rfl, h51⟩ := hp44
 have hS56 : St lo n40 H41 _ := sA hS52 hnew46 hle45
 have h57 := OW.keep (n' := n40) h36 (by omega) (fun i hi => hk47 i (OW.id_lt h36 hi).2 (oE2 (nF (OW.fnone h36 hi)) (fun h => (Ap.fresh0 (OW.lb hO33) (by have := lt30; omega)) (h ▸ hi))))
 have fo58 := fA hX54 lt30 fo27
 have h59 := OW.keepF h57 hX54.sub (fun i hi => (hX54.eq i (by have := (OW.hb h36) i hi; omega)).trans (OW.fnone h57 hi))
 have hE60 := (hE28.up (n' := (n10 + 1)) (by omega)).trans hX54
 have ho61 := hle45 _ _ ho55
 have hlon40 := hS56.lo
 have lt62 := hS56.lt ho61
 obtain ⟨hc63, hr⟩ := chk_some hr
 refine WL.addI .nil rfl rfl rfl rfl rfl hc63.1 hc63.2 (aN rfl (wN (eT (W.block ?_))))
 refine W.loopF (fun k0 fr n H => ∃ (a0 : OA) (cap0 : Nat) (xs0 : (List GEvent)) (x0 : Int) (a1 : OA) (cap1 : Nat) (xs1 : (List UInt8)) (x2 : Int) (x3 : Int) (F : Heap), fr = [(0, pt p0 0), (1, iv x8), (5, iv x9.2), (6, .slice a0 xs0.length cap0), (7, iv x0)] ∧ St lo n H F ∧ Ext n0 F0 n F ∧ H p0 = some (.row ez0 [.slice a1 xs1.length cap1, iv x2, iv x3]) ∧ F p0 = none ∧ Ow n0 n H F a0 cap0 xs0 ∧ SR F (.slice a1 xs1.length cap1) xs1 ∧ nP (.slice a0 xs0.length cap0) p0 ∧ f_spec_l00Src_calm_L0 x8 x9 k0 xs0 x0 xs1 x2 x3 = some res) BIG (fr0 := [(0, pt p0 0), (1, iv x8), (5, iv x9.2), (6, .slice (some ⟨n10, 0, none⟩) ([(⟨1, x9.2, []⟩ : GEvent)] : List GEvent).length 1), (7, iv ((2 : Int) + x39.2))]) (fl5) ?_ ?_ ?_
 {
 exact ⟨(some ⟨n10, 0, none⟩), 1, ([(⟨1, x9.2, []⟩ : GEvent)] : List GEvent), ((2 : Int) + x39.2), a49, cap50, x39.1.code, x39.1.at_, x39.1.seed, F53, rfl, hS56, hE60, ho61, fo58, h59, h51, (Ap.fresh0 (OW.lb hO33) (by have := lt30; omega)), hr⟩
 }
 {
 intro fr n H hI
 obtain ⟨a0, cap0, xs0, x0, a1, cap1, xs1, x2, x3, F1, hfr, hS1, hE1, ho0, fo0, h0, h1, ap0, hr⟩ := hI
 rw [f_spec_l00Src_calm_L0] at hr
 cases hr
 }
 {
 intro k0 _ n1 H1 hI
 obtain ⟨a0, cap0, xs0, x0, a1, cap1, xs1, x2, x3, F1, rfl, hS1, hE1, ho0, fo0, h0, h1, ap0, hr⟩ := hI
 have lt1 := hS1.lt ho0
 have hlen0 := hE1.le
 have hlon1 := hS1.lo
 rw [f_spec_l00Src_calm_L0] at hr
 refine wS (wS (wR (mN rfl (bN rfl rfl (wN (eT ?_))))))
 refine W.condD rfl (fun hc0 => ?_) (fun hc0 => ?_)
 {
 replace hr := ite_pos hr hc0
 refine wK (eT (wS (W.block (wS (wS (wR (mN rfl ?_)))))))
 obtain ⟨hc1, hr⟩ := chk_some hr
 refine WL.mulI .nil rfl rfl rfl rfl rfl hc1.1 hc1.2 (aN rfl (wN (eT (W.block ?_))))
 refine W.loopF (fun k1 fr n H => ∃ (a3 : OA) (cap2 : Nat) (xs2 : (List GEvent)) (x4 : Int) (F : Heap), fr = [(0, pt p0 0), (1, iv x8), (5, iv x9.2), (6, .slice a3 xs2.length cap2), (7, iv x0), (8, iv x4)] ∧ St lo n H F ∧ Ext n0 F0 n F ∧ H p0 = some (.row ez0 [.slice a1 xs1.length cap1, iv x2, iv x3]) ∧ F p0 = none ∧ Ow n0 n H F a3 cap2 xs2 ∧ SR F (.slice a1 xs1.length cap1) xs1 ∧ nP (.slice a3 xs2.length cap2) p0 ∧ f_spec_l00Src_calm_L1 xs1 x2 x3 x9 x0 (f_spec_l00Src_calm_L0 x8 x9 k0) k1 xs2 x4 = some res) BIG (fr0 := [(0, pt p0 0), (1, iv x8), (5, iv x9.2), (6, .slice a0 xs0.length cap0), (7, iv x0), (8, iv ((3 : Int) * x8))]) (fl6) ?_ ?_ ?_
 {
 exact ⟨a0, cap0, xs0, ((3 : Int) * x8), F1, rfl, hS1, hE1, ho0, fo0, h0, h1, ap0, hr⟩
 }
 {
 intro fr n H hI
 obtain ⟨a3, cap2, xs2, x4, F2, hfr, hS2, hE2, ho1, fo1, h2, h3, ap1, hr⟩ := hI
 rw [f_spec_l00Src_calm_L1] at hr
 cases hr
 }
 {
 intro k1 _ n2 H2 hI
 obtain ⟨a3, cap2, xs2, x4, F2, rfl, hS2, hE2, ho1, fo1, h2, h3, ap1, hr⟩ := hI
 have lt2 := hS2.lt ho1
 have hlen1 := hE2.le
 have hlon2 := hS2.lo
 rw [f_spec_l00Src_calm_L1] at hr
 refine wS (wS (wR (mN rfl (bN rfl rfl (wN (eT ?_))))))
 refine W.condD rfl (fun hc2 => ?_) (fun hc2 => ?_)
 {
 replace hr := ite_pos hr hc2
 refine wK (eT (wS (W.block (wR (mN rfl ?_)))))
 refine WL.buildL .nil (cells := [iv 2, iv 0, .slice none 0 0]) rfl rfl rfl U24 info24 rfl rfl rfl (by simp only [List.mapM_cons, List.mapM_nil, info3, info3, info22]; rfl) rfl (by first | rfl | ((conv => lhs; simp [splice, fillL, cells_int, cells_bool, cells_string, cells_str, cells_slice, cells_ptr, cells_map, cells_func, cells_nilFunc, cells_nilIface, cells_iface, cells_agg, cells_u8]) <;> rfl)) ?_
 refine GL.lit (cs := [iv 2, iv 0, .slice none 0 0]) (xs := ([(⟨2, 0, []⟩ : GEvent)] : List GEvent)) hS2 .nil rfl rfl rfl U25 info24 rfl rfl rfl (by decide) (by decide) rfl rfl rfl rfl rfl (RA.cons (cs := [iv 2, iv 0, .slice none 0 0]) (a := ((⟨2, 0, []⟩ : GEvent) : GEvent)) (GEvent.toR (x := (⟨2, 0, []⟩ : GEvent)) SR.nil) RA.nil) rfl (fun H3 hS3 hO0 hk0 => ?_)
 have ho2 := oA hk0 ho1 lt2
 have h5 := kA (n' := (n2 + 1)) h2 hk0
 have h6 := OW.lower (lo' := n0) hO0 (by omega)
 have hlon3 := hS3.lo
 obtain ⟨hc3, hr⟩ := chk_some hr
 refine GL.append (α := GEvent) hS3 .nil rfl rfl rfl U25 U25 rfl info24 rfl rfl rfl (by decide) rfl rfl h5 (by omega) (by omega) (OW.src h6) hc3 (fun a4 cap4 n3 H4 hS4 hn0 hO1 hk1 hid0 => ?_)
 have ho3 := (hk1 _ (by have := lt2; omega) ap1).trans ho2
 have hlon4 := hS4.lo
 refine aN rfl (wN (eB (eT (wR (mN rfl ?_)))))
 obtain ⟨hc4, hr⟩ := chk_some hr
 refine WL.subI .nil rfl rfl rfl rfl rfl hc4.1 hc4.2 (aN rfl (wN (eT ?_)))
 exact ⟨[(0, pt p0 0), (1, iv x8), (5, iv x9.2), (6, .slice a4 (xs2 ++ ([(⟨2, 0, []⟩ : GEvent)] : List GEvent)).length cap4), (7, iv x0), (8, iv (x4 - 1))], (fl6), a4, cap4, (xs2 ++ ([(⟨2, 0, []⟩ : GEvent)] : List GEvent)), (x4 - 1), F2, rfl, hS4, (hE2.up (by omega)), ho3, fo1, hO1, h3, (Ap.new0 hid0 (by have := lt2; omega) ap1), hr⟩
 }
 {
 replace hr := ite_neg hr hc2
 refine W.exit (eX (eX (eH (eT (wR (mN rfl (mN rfl (mN rfl ?_))))))))
 obtain ⟨x5, hx0, hr⟩ := bnd_some hr
 refine GL.callIO g .nil (fun i => (F2 i).isSome = true ∨ i = p0) rfl rfl rfl rfl rfl rfl Try.func115 rfl rfl (Nat.le_refl _) hS2.lo (f_spec_l00Src_bytes_k (x1 := (⟨xs1, x2, x3⟩ : Gl00Src)) g (St.vis hS2 (fun i hi => .inl hi)) (vis_get ho1 (.inr (rfl))) fo1 lo7 h3 hx0) (fun v n4 H5 H6 hn1 hp0 hle0 hnew0 hk2 hd0 => ?_)
 obtain ⟨F3, a5, cap5, a6, cap6, hX0, hS5, ho4, rfl, h7, h8⟩ := hp0
 have hS6 : St lo n4 H5 _ := sA hS5 hnew0 hle0
 have h9 := OW.keep (n' := n4) h2 (by omega) (fun i hi => hk2 i (OW.id_lt h2 hi).2 (oE2 (nF (OW.fnone h2 hi)) (fun h => ap1 (h ▸ hi))))
 have fo2 := fA hX0 lt2 fo1
 have h10 := OW.keepF h9 hX0.sub (fun i hi => (hX0.eq i (by have := (OW.hb h2) i hi; omega)).trans (OW.fnone h9 hi))
 have hE3 := (hE2.up (n' := n2) (by omega)).trans hX0
 have ho6 := hle0 _ _ ho4
 have h11 := OW.lower (lo' := n0) (OW.le h8 hle0) (by omega)
 have ap2 : nA (.slice a6 x5.2.length cap6) (.slice a3 xs2.length cap2) := fun b hj hi => (OW.after h8 hd0 hj).elim (fun h => by have := (OW.hb h2) b hi; omega) (oE2 (nF (OW.fnone h2 hi)) (fun h => ap1 (h ▸ hi)))
 have ap3 : nP (.slice a6 x5.2.length cap6) p0 := fun hj => by have := (OW.id_lt h8 hj).1; have := lt2; omega
 have hlon5 := hS6.lo
 have lt3 := hS6.lt ho6
 refine WL.buildL .nil (cells := [iv 7, iv x9.2, .slice a6 x5.2.length cap6]) rfl rfl rfl U24 info24 rfl rfl rfl (by simp only [List.mapM_cons, List.mapM_nil, info3, info3, info22]; rfl) rfl (by first | rfl | ((conv => lhs; simp [splice, fillL, cells_int, cells_bool, cells_string, cells_str, cells_slice, cells_ptr, cells_map, cells_func, cells_nilFunc, cells_nilIface, cells_iface, cells_agg, cells_u8]) <;> rfl)) ?_
 refine mN rfl ?_
 refine WL.buildL .nil (cells := [iv 1, iv x9.2, .slice none 0 0]) rfl rfl rfl U24 info24 rfl rfl rfl (by simp only [List.mapM_cons, List.mapM_nil, info3, info3, info22]; rfl) rfl (by first | rfl | ((conv => lhs; simp [splice, fillL, cells_int, cells_bool, cells_string, cells_str, cells_slice, cells_ptr, cells_map, cells_func, cells_nilFunc, cells_nilIface, cells_iface, cells_agg, cells_u8]) <;> rfl)) ?_
 obtain ⟨F4, hS7, hle1, h12, hf0⟩ := OW.freeze h11 hS6
 have fo3 := (hf0 _ ap3).trans fo2
 have h13 := kF h10 hle1 hf0 ap2
 have hE4 : Ext n0 F0 n4 F4 := ⟨Nat.le_trans hE3.le (by omega), hE3.sub.trans hle1, fun i hi => (hf0 i (fun hj => by have := OW.id_lt h11 hj; omega)).trans (hE3.eq i hi)⟩
 refine GL.lit (cs := [iv 7, iv x9.2, .slice a6 x5.2.length cap6, iv 1, iv x9.2, .slice none 0 0]) (xs := ([(⟨7, x9.2, x5.2⟩ : GEvent), (⟨1, x9.2, []⟩ : GEvent)] : List GEvent)) hS7 .nil rfl rfl rfl U25 info24 rfl rfl rfl (by decide) (by decide) rfl rfl rfl rfl rfl (RA.cons (cs := [iv 7, iv x9.2, .slice a6 x5.2.length cap6]) (a := ((⟨7, x9.2, x5.2⟩ : GEvent) : GEvent)) (GEvent.toR (x := (⟨7, x9.2, x5.2⟩ : GEvent)) h12) (RA.cons (cs := [iv 1, iv x9.2, .slice none 0 0]) (a := ((⟨1, x9.2, []⟩ : GEvent) : GEvent)) (GEvent.toR (x := (⟨1, x9.2, []⟩ : GEvent)) SR.nil) RA.nil)) rfl (fun H7 hS8 hO2 hk3 => ?_)
 have ho7 := oA hk3 ho6 lt3
 have h14 := kA (n' := (n4 + 1)) h13 hk3
 have h15 := OW.lower (lo' := n0) hO2 (by omega)
 have hlon6 := hS8.lo
 obtain ⟨hc5, hr⟩ := chk_some hr
 refine GL.append (α := GEvent) hS8 .nil rfl rfl rfl U25 U25 rfl info24 rfl rfl rfl (by decide) rfl rfl h14 (by omega) (by omega) (OW.src h15) hc5 (fun a7 cap7 n5 H8 hS9 hn2 hO3 hk4 hid1 => ?_)
 have ho8 := (hk4 _ (by have := lt3; omega) ap1).trans ho7
 have hlon7 := hS9.lo
 refine aN rfl (wN (eB (eT (wR (mN rfl ?_)))))
 obtain ⟨hc6, hr⟩ := chk_some hr
 refine WL.subI .nil rfl rfl rfl rfl rfl hc6.1 hc6.2 (aN rfl (wN (eT ?_)))
 exact ⟨[(0, pt p0 0), (1, iv x8), (5, iv x9.2), (6, .slice a7 (xs2 ++ ([(⟨7, x9.2, x5.2⟩ : GEvent), (⟨1, x9.2, []⟩ : GEvent)] : List GEvent)).length cap7), (7, iv (x0 - 1))], (fl5), a7, cap7, (xs2 ++ ([(⟨7, x9.2, x5.2⟩ : GEvent), (⟨1, x9.2, []⟩ : GEvent)] : List GEvent)), (x0 - 1), a5, cap5, x5.1.code, x5.1.at_, x5.1.seed, F4, rfl, hS9, (hE4.up (by omega)), ho8, fo3, hO3, (h7.mono hle1), (Ap.new0 hid1 (by have := lt3; omega) ap1), hr⟩
 }
 }
 }
 {
 replace hr := ite_neg hr hc0
 refine W.exit (eX (eX (eH (eT (wS (wR (mN rfl (aN rfl (wN (eT (W.ret ?_)))))))))))
 obtain rfl := Option.some.inj hr
 exact ⟨.inr rfl, _, (.cons (.tmp rfl) .nil), ⟨F1, a1, cap1, a0, cap0, (hE1.up (by omega)), hS1, ho0, rfl, h1, h0⟩⟩
 }
 }
theorem f_spec_l00Src_size_k {Δ : Prims} (g : Env Try.prog Δ) {lo n0 : Nat} {H0 F0 : Heap} (hS : St lo n0 H0 F0) {p0 : Nat} {x1 : Gl00Src} {ez0 : Nat} {a2 : Option Addr} {cap3 : Nat} {x8 : Int} (ho5 : H0 p0 = some (.row ez0 [.slice a2 x1.code.length cap3, iv x1.at_, iv x1.seed])) (fo6 : F0 p0 = none) (h4 : SR F0 (.slice a2 x1.code.length cap3) x1.code) {res : (Int)} (hr : f_spec_l00Src_size x1 x8 = some res) :
    C Try.prog Δ n0 116 [pt p0 0, iv x8] n0 H0 (fun v n H => St n0 n H F0 ∧ v = iv res) := by
 refine C.body Try.func116 rfl rfl ?_
 unfold f_spec_l00Src_size at hr
 have hS0 : St n0 n0 H0 F0 := hS.low (Nat.le_refl _)
 have hE0 := Ext.refl n0 F0
 have hlo0 := hS0.lo
 have lt0 := hS0.lt ho5
 refine wS (wR (aN rfl (wN (eT (wS (wR (mN rfl (zN rfl (fN rfl U96 rfl info22 rfl (lN rfl U22 rfl ho5 rfl (WL.len .nil rfl rfl rfl U22 rfl ?_)))))))))))
 obtain ⟨hc9, hr⟩ := chk_some hr
 refine WL.quoI .nil rfl rfl rfl rfl rfl hc9.1 hc9.2.1 hc9.2.2 ?_
 obtain ⟨hc10, hr⟩ := chk_some hr
 refine WL.addI .nil rfl rfl rfl rfl rfl hc10.1 hc10.2 (mN rfl (WL.min2 .nil rfl rfl rfl rfl rfl (aN rfl (wN (eT (W.ret ?_))))))
 obtain rfl := Option.some.inj hr
 exact ⟨.inr rfl, _, (.cons (.tmp rfl) .nil), ⟨(Ext.st hE0 hS0), rfl⟩⟩
theorem f_spec_l00Src_chance_k {Δ : Prims} (g : Env Try.prog Δ) {lo n0 : Nat} {H0 F0 : Heap} (hS : St lo n0 H0 F0) {p0 : Nat} {x1 : Gl00Src} {ez0 : Nat} {a2 : Option Addr} {cap3 : Nat} {x8 : Int} (ho5 : H0 p0 = some (.row ez0 [.slice a2 x1.code.length cap3, iv x1.at_, iv x1.seed])) (fo6 : F0 p0 = none) (lo7 : lo ≤ p0) (h4 : SR F0 (.slice a2 x1.code.length cap3) x1.code) {res : (Gl00Src × Bool)} (hr : f_spec_l00Src_chance x1 x8 = some res) :
    C Try.prog Δ lo 66 [pt p0 0, iv x8] n0 H0 (fun v n H => ∃ (F : Heap) (ra1 : OA) (rcap2 : Nat), Ext n0 F0 n F ∧ St lo n H F ∧ H p0 = some (.row ez0 [.slice ra1 res.1.code.length rcap2, iv res.1.at_, iv res.1.seed]) ∧ v = .bool res.2 ∧ SR F (.slice ra1 res.1.code.length rcap2) res.1.code) := by
 refine C.body Try.func66 rfl rfl ?_
 unfold f_spec_l00Src_chance at hr
 have hS0 : St lo n0 H0 F0 := hS
 have hE0 := Ext.refl n0 F0
 have hlo0 := hS0.lo
 have lt0 := hS0.lt ho5
 refine wS (wR (aN rfl (wN (eT (wS (wR (mN rfl (mN rfl ?_))))))))
 obtain ⟨x9, hx9, hr⟩ := bnd_some hr
 refine GL.callIO g .nil (fun i => (F0 i).isSome = true ∨ i = p0) rfl rfl rfl rfl rfl rfl Try.func98 rfl rfl (Nat.le_refl _) hS0.lo (f_spec_l00Src_next_k (x1 := (⟨x1.code, x1.at_, x1.seed⟩ : Gl00Src)) g (St.vis hS0 (fun i hi => .inl hi)) (vis_get ho5 (.inr (rfl))) fo6 lo7 h4 hx9) (fun v n10 H11 H12 hn13 hp14 hle15 hnew16 hk17 hd18 => ?_)
 obtain ⟨F23, a19, cap20, hX24, hS22, ho25, rfl, h21⟩ := hp14
 have hS26 : St lo n10 H11 _ := sA hS22 hnew16 hle15
 have hE28 := (hE0.up (n' := n0) (by omega)).trans hX24
 have ho29 := hle15 _ _ ho25
 have hlon10 := hS26.lo
 have lt30 := hS26.lt ho29
 refine mN rfl ?_
 obtain ⟨hc31, hr⟩ := chk_some hr
 refine WL.subI .nil rfl rfl rfl rfl rfl hc31.1 hc31.2 (bN rfl rfl (aN rfl (wN (eT (W.ret ?_)))))
 obtain rfl := Option.some.inj hr
 exact ⟨.inr rfl, _, (.cons (.tmp rfl) .nil), ⟨F23, a19, cap20, (hE28.up (by omega)), hS26, ho29, rfl, h21⟩⟩
theorem f_spec_l00Src_events_k {Δ : Prims} (g : Env Try.prog Δ) {lo n0 : Nat} {H0 F0 : Heap} (hS : St lo n0 H0 F0) {p0 : Nat} {x1 : Gl00Src} {ez0 : Nat} {a2 : Option Addr} {cap3 : Nat} {x8 : Int} (ho5 : H0 p0 = some (.row ez0 [.slice a2 x1.code.length cap3, iv x1.at_, iv x1.seed])) (fo6 : F0 p0 = none) (lo7 : lo ≤ p0) (h4 : SR F0 (.slice a2 x1.code.length cap3) x1.code) {res : (Gl00Src × (List GEvent))} (hr : f_spec_l00Src_events x1 x8 = some res) :
    C Try.prog Δ lo 97 [pt p0 0, iv x8] n0 H0 (fun v n H => ∃ (F : Heap) (ra1 : OA) (rcap2 : Nat) (ra4 : OA) (rcap5 : Nat), Ext n0 F0 n F ∧ St lo n H F ∧ H p0 = some (.row ez0 [.slice ra1 res.1.code.length rcap2, iv res.1.at_, iv res.1.seed]) ∧ v = .slice ra4 res.2.length rcap5 ∧ SR F (.slice ra1 res.1.code.length rcap2) res.1.code ∧ Ow n0 n H F ra4 rcap5 res.2) := by
 refine C.body Try.func97 rfl rfl ?_
 unfold f_spec_l00Src_events at hr
 have hS0 : St lo n0 H0 F0 := hS
 have hE0 := Ext.refl n0 F0
 have hlo0 := hS0.lo
 have lt0 := hS0.lt ho5
 refine wS (wR (aN rfl (wN (eT (wS (wR ?_))))))
 refine GL.lit (cs := []) (xs := ([] : List GEvent)) hS0 .nil rfl rfl rfl U25 info24 rfl rfl rfl (by decide) (by decide) rfl rfl rfl rfl rfl RA.nil rfl (fun H9 hS10 hO11 hk12 => ?_)
 have ho13 := oA hk12 ho5 lt0
 have h14 := OW.lower (lo' := n0) hO11 (by omega)
 have hlon01 := hS10.lo
 refine aN rfl (wN (eT (wS (wS (wR (mN rfl (mN rfl ?_)))))))
 obtain ⟨x17, hx17, hr⟩ := bnd_some hr
 refine GL.callP g.good .nil rfl rfl rfl rfl rfl rfl Try.func116 rfl rfl hS10.lo (f_spec_l00Src_size_k (x1 := (⟨x1.code, x1.at_, x1.seed⟩ : Gl00Src)) g hS10 ho13 fo6 h4 hx17) (fun v n18 H19 hn20 hk21 hp22 => ?_)
 obtain ⟨hS23, rfl⟩ := hp22
 have ho24 := oA hk21 ho13 lt0
 have h25 := kA (n' := n18) h14 hk21
 have hS26 : St lo n18 H19 F0 := ⟨by have := hS10.lo; omega, hS23.hb, hS23.fh⟩
 have hlon18 := hS26.lo
 obtain ⟨hc27, hr⟩ := chk_some hr
 refine WL.addI .nil rfl rfl rfl rfl rfl hc27.1 hc27.2 ?_
 obtain ⟨x28, hx28, hr⟩ := bnd_some hr
 refine GL.callIO g .nil (fun i => (F0 i).isSome = true ∨ i = p0) rfl rfl rfl rfl rfl rfl Try.func98 rfl rfl (Nat.le_refl _) hS26.lo (f_spec_l00Src_next_k (x1 := (⟨x1.code, x1.at_, x1.seed⟩ : Gl00Src)) g (St.vis hS26 (fun i hi => .inl hi)) (vis_get ho24 (.inr (rfl))) fo6 lo7 h4 hx28) (fun v n29 H30 H31 hn32 hp33 hle34 hnew35 hk36 hd37 => ?_)
 obtain ⟨F42, a38, cap39, hX43, hS41, ho44, rfl, h40⟩ := hp33
 have hS45 : St lo n29 H30 _ := sA hS41 hnew35 hle34
 have h46 := OW.keep (n' := n29) h25 (by omega) (fun i hi => hk36 i (OW.id_lt h25 hi).2 (oE2 (nF (OW.fnone h25 hi)) (fun h => (Ap.fresh0 (OW.lb hO11) (by have := lt0; omega)) (h ▸ hi))))
 have fo47 := fA hX43 lt0 fo6
 have h48 := OW.keepF h46 hX43.sub (fun i hi => (hX43.eq i (by have := (OW.hb h25) i hi; omega)).trans (OW.fnone h46 hi))
 have hE49 := (hE0.up (n' := n18) (by omega)).trans hX43
 have ho50 := hle34 _ _ ho44
 have hlon29 := hS45.lo
 have lt51 := hS45.lt ho50
 refine aN rfl (wN (eT (W.block ?_)))
 refine W.loopF (fun k0 fr n H => ∃ (a0 : OA) (cap0 : Nat) (xs0 : (List GEvent)) (x0 : Int) (a1 : OA) (cap1 : Nat) (xs1 : (List UInt8)) (x2 : Int) (x3 : Int) (F : Heap), fr = [(0, pt p0 0), (1, iv x8), (5, .slice a0 xs0.length cap0), (6, iv x0)] ∧ St lo n H F ∧ Ext n0 F0 n F ∧ H p0 = some (.row ez0 [.slice a1 xs1.length cap1, iv x2, iv x3]) ∧ F p0 = none ∧ Ow n0 n H F a0 cap0 xs0 ∧ SR F (.slice a1 xs1.length cap1) xs1 ∧ nP (.slice a0 xs0.length cap0) p0 ∧ f_spec_l00Src_events_L0 x8 k0 xs0 x0 xs1 x2 x3 = some res) BIG (fr0 := [(0, pt p0 0), (1, iv x8), (5, .slice (some ⟨n0, 0, none⟩) ([] : List GEvent).length 0), (6, iv x28.2)]) (fl4) ?_ ?_ ?_
 {
 exact ⟨(some ⟨n0, 0, none⟩), 0, ([] : List GEvent), x28.2, a38, cap39, x28.1.code, x28.1.at_, x28.1.seed, F42, rfl, hS45, hE49, ho50, fo47, h48, h40, (Ap.fresh0 (OW.lb hO11) (by have := lt0; omega)), hr⟩
 }
 {
 intro fr n H hI
 obtain ⟨a0, cap0, xs0, x0, a1, cap1, xs1, x2, x3, F1, hfr, hS1, hE1, ho0, fo0, h0, h1, ap0, hr⟩ := hI
 rw [f_spec_l00Src_events_L0] at hr
 cases hr
 }
 {
 intro k0 _ n1 H1 hI
 obtain ⟨a0, cap0, xs0, x0, a1, cap1, xs1, x2, x3, F1, rfl, hS1, hE1, ho0, fo0, h0, h1, ap0, hr⟩ := hI
 have lt1 := hS1.lt ho0
 have hlen0 := hE1.le
 have hlon0 := hS1.lo
 rw [f_spec_l00Src_events_L0] at hr
 refine wS (wS (wR (mN rfl (bN rfl rfl (wN (eT ?_))))))
 refine W.condD rfl (fun hc0 => ?_) (fun hc0 => ?_)
 {
 replace hr := ite_pos hr hc0
 refine wK (eT (wS ?_))
 refine W.cut (fun fr n H => ∃ (a3 : OA) (cap2 : Nat) (xs2 : (List GEvent)) (a4 : OA) (cap4 : Nat) (xs3 : (List UInt8)) (x4 : Int) (x5 : Int) (F : Heap), fr = [(0, pt p0 0), (1, iv x8), (5, .slice a3 xs2.length cap2), (6, iv x0)] ∧ St lo n H F ∧ Ext n0 F0 n F ∧ H p0 = some (.row ez0 [.slice a4 xs3.length cap4, iv x4, iv x5]) ∧ F p0 = none ∧ Ow n0 n H F a3 cap2 xs2 ∧ SR F (.slice a4 xs3.length cap4) xs3 ∧ nP (.slice a3 xs2.length cap2) p0 ∧ f_spec_l00Src_events_J1 x0 (f_spec_l00Src_events_L0 x8 k0) xs2 xs3 x4 x5 = some res) ?_ ?_
 {
 refine W.block (wS (wR (mN rfl ?_)))
 obtain ⟨x6, hx0, hr⟩ := bnd_some hr
 refine GL.callIO g .nil (fun i => (F1 i).isSome = true ∨ i = p0) rfl rfl rfl rfl rfl rfl Try.func98 rfl rfl (Nat.le_refl _) hS1.lo (f_spec_l00Src_next_k (x1 := (⟨xs1, x2, x3⟩ : Gl00Src)) g (St.vis hS1 (fun i hi => .inl hi)) (vis_get ho0 (.inr (rfl))) fo0 lo7 h1 hx0) (fun v n2 H3 H4 hn0 hp0 hle0 hnew0 hk0 hd0 => ?_)
 obtain ⟨F2, a5, cap5, hX0, hS2, ho1, rfl, h2⟩ := hp0
 have hS3 : St lo n2 H3 _ := sA hS2 hnew0 hle0
 have h3 := OW.keep (n' := n2) h0 (by omega) (fun i hi => hk0 i (OW.id_lt h0 hi).2 (oE2 (nF (OW.fnone h0 hi)) (fun h => ap0 (h ▸ hi))))
 have fo1 := fA hX0 lt1 fo0
 have h5 := OW.keepF h3 hX0.sub (fun i hi => (hX0.eq i (by have := (OW.hb h0) i hi; omega)).trans (OW.fnone h3 hi))
 have hE2 := (hE1.up (n' := n1) (by omega)).trans hX0
 have ho2 := hle0 _ _ ho1
 have hlon1 := hS3.lo
 have lt2 := hS3.lt ho2
 refine wN (eT (W.block (wS (wR (bN rfl rfl (aN rfl (wN (eT ?_))))))))
 refine W.condD rfl (fun hc1 => ?_) (fun hc1 => ?_)
 {
 replace hr := ite_pos hr hc1
 refine wR (mN rfl (mN rfl (mN rfl ?_)))
 obtain ⟨x7, hx1, hr⟩ := bnd_some hr
 refine GL.callIO g .nil (fun i => (F2 i).isSome = true ∨ i = p0) rfl rfl rfl rfl rfl rfl Try.func98 rfl rfl (Nat.le_refl _) hS3.lo (f_spec_l00Src_next_k (x1 := (⟨x6.1.code, x6.1.at_, x6.1.seed⟩ : Gl00Src)) g (St.vis hS3 (fun i hi => .inl hi)) (vis_get ho2 (.inr (rfl))) fo1 lo7 h2 hx1) (fun v n3 H5 H6 hn1 hp1 hle1 hnew1 hk1 hd1 => ?_)
 obtain ⟨F3, a6, cap6, hX1, hS4, ho3, rfl, h6⟩ := hp1
 have hS5 : St lo n3 H5 _ := sA hS4 hnew1 hle1
 have h7 := OW.keep (n' := n3) h5 (by omega) (fun i hi => hk1 i (OW.id_lt h5 hi).2 (oE2 (nF (OW.fnone h5 hi)) (fun h => ap0 (h ▸ hi))))
 have fo2 := fA hX1 lt2 fo1
 have h8 := OW.keepF h7 hX1.sub (fun i hi => (hX1.eq i (by have := (OW.hb h5) i hi; omega)).trans (OW.fnone h7 hi))
 have hE3 := (hE2.up (n' := n2) (by omega)).trans hX1
 have ho4 := hle1 _ _ ho3
 have hlon2 := hS5.lo
 have lt3 := hS5.lt ho4
 refine WL.buildL .nil (cells := [iv 1, iv x7.2, .slice none 0 0]) rfl rfl rfl U24 info24 rfl rfl rfl (by simp only [List.mapM_cons, List.mapM_nil, info3, info3, info22]; rfl) rfl (by first | rfl | ((conv => lhs; simp [splice, fillL, cells_int, cells_bool, cells_string, cells_str, cells_slice, cells_ptr, cells_map, cells_func, cells_nilFunc, cells_nilIface, cells_iface, cells_agg, cells_u8]) <;> rfl)) ?_
 refine GL.lit (cs := [iv 1, iv x7.2, .slice none 0 0]) (xs := ([(⟨1, x7.2, []⟩ : GEvent)] : List GEvent)) hS5 .nil rfl rfl rfl U25 info24 rfl rfl rfl (by decide) (by decide) rfl rfl rfl rfl rfl (RA.cons (cs := [iv 1, iv x7.2, .slice none 0 0]) (a := ((⟨1, x7.2, []⟩ : GEvent) : GEvent)) (GEvent.toR (x := (⟨1, x7.2, []⟩ : GEvent)) SR.nil) RA.nil) rfl (fun H7 hS6 hO0 hk2 => ?_)
 have ho6 := oA hk2 ho4 lt3
 have h9 := kA (n' := (n3 + 1)) h8 hk2
 have h10 := OW.lower (lo' := n0) hO0 (by omega)
 have hlon3 := hS6.lo
 obtain ⟨hc2, hr⟩ := chk_some hr
 refine GL.append (α := GEvent) hS6 .nil rfl rfl rfl U25 U25 rfl info24 rfl rfl rfl (by decide) rfl rfl h9 (by omega) (by omega) (OW.src h10) hc2 (fun a7 cap7 n4 H8 hS7 hn2 hO1 hk3 hid0 => ?_)
 have ho7 := (hk3 _ (by have := lt3; omega) ap0).trans ho6
 have hlon4 := hS7.lo
 refine aN rfl (wN (eB (eB (eT ?_))))
 exact ⟨[(0, pt p0 0), (1, iv x8), (5, .slice a7 (xs0 ++ ([(⟨1, x7.2, []⟩ : GEvent)] : List GEvent)).length cap7), (6, iv x0)], (fl4), a7, cap7, (xs0 ++ ([(⟨1, x7.2, []⟩ : GEvent)] : List GEvent)), a6, cap6, x7.1.code, x7.1.at_, x7.1.seed, F3, rfl, hS7, (hE3.up (by omega)), ho7, fo2, hO1, h6, (Ap.new0 hid0 (by have := lt3; omega) ap0), hr⟩
 }
 {
 replace hr := ite_neg hr hc1
 refine wS (wR (bN rfl rfl (aN rfl (wN (eT ?_)))))
 refine W.condD rfl (fun hc3 => ?_) (fun hc3 => ?_)
 {
 replace hr := ite_pos hr hc3
 refine wR (mN rfl (mN rfl (mN rfl ?_)))
 obtain ⟨x9, hx2, hr⟩ := bnd_some hr
 refine GL.callIO g .nil (fun i => (F2 i).isSome = true ∨ i = p0) rfl rfl rfl rfl rfl rfl Try.func98 rfl rfl (Nat.le_refl _) hS3.lo (f_spec_l00Src_next_k (x1 := (⟨x6.1.code, x6.1.at_, x6.1.seed⟩ : Gl00Src)) g (St.vis hS3 (fun i hi => .inl hi)) (vis_get ho2 (.inr (rfl))) fo1 lo7 h2 hx2) (fun v n5 H10 H11 hn3 hp2 hle2 hnew2 hk4 hd2 => ?_)
 obtain ⟨F4, a8, cap8, hX2, hS8, ho8, rfl, h11⟩ := hp2
 have hS9 : St lo n5 H10 _ := sA hS8 hnew2 hle2
 have h12 := OW.keep (n' := n5) h5 (by omega) (fun i hi => hk4 i (OW.id_lt h5 hi).2 (oE2 (nF (OW.fnone h5 hi)) (fun h => ap0 (h ▸ hi))))
 have fo3 := fA hX2 lt2 fo1
 have h13 := OW.keepF h12 hX2.sub (fun i hi => (hX2.eq i (by have := (OW.hb h5) i hi; omega)).trans (OW.fnone h12 hi))
 have hE4 := (hE2.up (n' := n2) (by omega)).trans hX2
 have ho9 := hle2 _ _ ho8
 have hlon5 := hS9.lo
 have lt4 := hS9.lt ho9
 refine mN rfl ?_
 obtain ⟨x10, hx3, hr⟩ := bnd_some hr
 refine GL.callIO g .nil (fun i => (F4 i).isSome = true ∨ i = p0) rfl rfl rfl rfl rfl rfl Try.func115 rfl rfl (Nat.le_refl _) hS9.lo (f_spec_l00Src_bytes_k (x1 := (⟨x9.1.code, x9.1.at_, x9.1.seed⟩ : Gl00Src)) g (St.vis hS9 (fun i hi => .inl hi)) (vis_get ho9 (.inr (rfl))) fo3 lo7 h11 hx3) (fun v n6 H12 H13 hn4 hp3 hle3 hnew3 hk5 hd3 => ?_)
 obtain ⟨F5, a9, cap9, a10, cap10, hX3, hS11, ho10, rfl, h15, h16⟩ := hp3
 have hS12 : St lo n6 H12 _ := sA hS11 hnew3 hle3
 have h17 := OW.keep (n' := n6) h13 (by omega) (fun i hi => hk5 i (OW.id_lt h13 hi).2 (oE2 (nF (OW.fnone h13 hi)) (fun h => ap0 (h ▸ hi))))
 have fo4 := fA hX3 lt4 fo3
 have h18 := OW.keepF h17 hX3.sub (fun i hi => (hX3.eq i (by have := (OW.hb h13) i hi; omega)).trans (OW.fnone h17 hi))
 have hE5 := (hE4.up (n' := n5) (by omega)).trans hX3
 have ho11 := hle3 _ _ ho10
 have h19 := OW.lower (lo' := n0) (OW.le h16 hle3) (by omega)
 have ap1 : nA (.slice a10 x10.2.length cap10) (.slice a0 xs0.length cap0) := fun b hj hi => (OW.after h16 hd3 hj).elim (fun h => by have := (OW.hb h13) b hi; omega) (oE2 (nF (OW.fnone h13 hi)) (fun h => ap0 (h ▸ hi)))
 have ap2 : nP (.slice a10 x10.2.length cap10) p0 := fun hj => by have := (OW.id_lt h16 hj).1; have := lt4; omega
 have hlon6 := hS12.lo
 have lt5 := hS12.lt ho11
 refine WL.buildL .nil (cells := [iv 7, iv x9.2, .slice a10 x10.2.length cap10]) rfl rfl rfl U24 info24 rfl rfl rfl (by simp only [List.mapM_cons, List.mapM_nil, info3, info3, info22]; rfl) rfl (by first | rfl | ((conv => lhs; simp [splice, fillL, cells_int, cells_bool, cells_string, cells_str, cells_slice, cells_ptr, cells_map, cells_func, cells_nilFunc, cells_nilIface, cells_iface, cells_agg, cells_u8]) <;> rfl)) ?_
 obtain ⟨F6, hS13, hle4, h20, hf0⟩ := OW.freeze h19 hS12
 have fo5 := (hf0 _ ap2).trans fo4
 have h21 := kF h18 hle4 hf0 ap1
 have hE6 : Ext n0 F0 n6 F6 := ⟨Nat.le_trans hE5.le (by omega), hE5.sub.trans hle4, fun i hi => (hf0 i (fun hj => by have := OW.id_lt h19 hj; omega)).trans (hE5.eq i hi)⟩
 refine GL.lit (cs := [iv 7, iv x9.2, .slice a10 x10.2.length cap10]) (xs := ([(⟨7, x9.2, x10.2⟩ : GEvent)] : List GEvent)) hS13 .nil rfl rfl rfl U25 info24 rfl rfl rfl (by decide) (by decide) rfl rfl rfl rfl rfl (RA.cons (cs := [iv 7, iv x9.2, .slice a10 x10.2.length cap10]) (a := ((⟨7, x9.2, x10.2⟩ : GEvent) : GEvent)) (GEvent.toR (x := (⟨7, x9.2, x10.2⟩ : GEvent)) h20) RA.nil) rfl (fun H14 hS14 hO2 hk6 => ?_)
 have ho12 := oA hk6 ho11 lt5
 have h22 := kA (n' := (n6 + 1)) h21 hk6
 have h23 := OW.lower (lo' := n0) hO2 (by omega)
 have hlon7 := hS14.lo
 obtain ⟨hc4, hr⟩ := chk_some hr
 refine GL.append (α := GEvent) hS14 .nil rfl rfl rfl U25 U25 rfl info24 rfl rfl rfl (by decide) rfl rfl h22 (by omega) (by omega) (OW.src h23) hc4 (fun a11 cap11 n7 H15 hS15 hn5 hO3 hk7 hid1 => ?_)
 have ho14 := (hk7 _ (by have := lt5; omega) ap0).trans ho12
 have hlon8 := hS15.lo
 refine aN rfl (wN (eB (eB (eT ?_))))
 exact ⟨[(0, pt p0 0), (1, iv x8), (5, .slice a11 (xs0 ++ ([(⟨7, x9.2, x10.2⟩ : GEvent)] : List GEvent)).length cap11), (6, iv x0)], (fl4), a11, cap11, (xs0 ++ ([(⟨7, x9.2, x10.2⟩ : GEvent)] : List GEvent)), a9, cap9, x10.1.code, x10.1.at_, x10.1.seed, F6, rfl, hS15, (hE6.up (by omega)), ho14, fo5, hO3, (h15.mono hle4), (Ap.new0 hid1 (by have := lt5; omega) ap0), hr⟩
 }
 {
 replace hr := ite_neg hr hc3
 refine wS (wR (bN rfl rfl (aN rfl (wN (eT ?_)))))
 refine W.condD rfl (fun hc5 => ?_) (fun hc5 => ?_)
 {
 replace hr := ite_pos hr hc5
 refine W.regionI (fun H => H n2 = some (.row (Rp.sz Int) [iv 3, iv 4])) [0, 1, 2, 6, 3, 4, 5, 7, 8, 9, 10, 11] [(false, true, false), (false, true, false), (false, false, false), (false, true, false), (true, false, false), (false, true, false), (false, true, false), (true, false, true), (false, false, false), (false, false, false), (true, false, true), (false, false, false)] false rfl kr kr mP ?_
 refine WLI.late (v := .slice a0 xs0.length cap0) (fun h => by cases h) rfl rfl (fun H2 hI2 => .move (.inl rfl) rfl) ?_
 refine GL.litLate (cs := [iv 3, iv 4]) (xs := ([3, 4] : List Int)) hS3 (fun h => by cases h) rfl rfl rfl U31 info3 rfl rfl rfl (by decide) (by decide) rfl rfl rfl rfl rfl (RA.cons (cs := [iv 3]) (a := (3 : Int)) rfl (RA.cons (cs := [iv 4]) (a := (4 : Int)) rfl RA.nil)) rfl (fun H h => h) (fun H16 hS16 hO4 hk8 hsl0 => ?_)
 have ho15 := oA hk8 ho2 lt2
 have h24 := kA (n' := (n2 + 1)) h5 hk8
 have h26 := OW.lower (lo' := n0) hO4 (by omega)
 have hlon9 := hS16.lo
 have rw0 : RW n0 (n2 + 1) H16 F2 n2 (.row (Rp.sz Int) [iv 3, iv 4]) := ⟨by omega, by omega, OW.fnone h26 rfl, hsl0⟩
 have ap3 : ¬ p0 = n2 := fun h => (Ap.fresh0 (OW.lb hO4) (by have := lt2; omega)) (congrArg some h.symm)
 refine oP (mR rfl ?_)
 with_reducible refine WL.nil ⟨rfl, ?_⟩
 refine WLI.late (v := pt p0 0) (fun h => by cases h) rfl rfl (fun H2 hI2 => .move (.inl rfl) rfl) ?_
 refine oP ?_
 obtain ⟨x11, hx4, hr⟩ := bnd_some hr
 refine GL.callIO g .w (fun i => (F2 i).isSome = true ∨ i = p0) rfl rfl rfl rfl rfl rfl Try.func98 rfl rfl (Nat.le_refl _) hS16.lo (f_spec_l00Src_next_k (x1 := (⟨x6.1.code, x6.1.at_, x6.1.seed⟩ : Gl00Src)) g (St.vis hS16 (fun i hi => .inl hi)) (vis_get ho15 (.inr (rfl))) fo1 lo7 h2 hx4) (fun v n8 H17 H18 hn6 hp4 hle5 hnew4 hk9 hd4 => ?_)
 obtain ⟨F7, a12, cap12, hX4, hS17, ho16, rfl, h27⟩ := hp4
 have hS18 : St lo n8 H17 _ := sA hS17 hnew4 hle5
 have h28 := OW.keep (n' := n8) h24 (by omega) (fun i hi => hk9 i (OW.id_lt h24 hi).2 (oE2 (nF (OW.fnone h24 hi)) (fun h => ap0 (h ▸ hi))))
 have h29 := RW.keep (n' := n8) rw0 (by omega) (fun i hi => hk9 i (RW.id_lt rw0 hi).2 (oE2 (nF (RW.fnone rw0 hi)) (fun h => ap3 (h ▸ hi))))
 have fo7 := fA hX4 lt2 fo1
 have h30 := OW.keepF h28 hX4.sub (fun i hi => (hX4.eq i (by have := (OW.hb h24) i hi; omega)).trans (OW.fnone h28 hi))
 have h31 := RW.keepF h29 hX4.sub (fun i hi => (hX4.eq i (by have := (RW.hb rw0) i hi; omega)).trans (RW.fnone h29 hi))
 have hE7 := (hE2.up (n' := (n2 + 1)) (by omega)).trans hX4
 have ho17 := hle5 _ _ ho16
 have hlon10 := hS18.lo
 have lt6 := hS18.lt ho17
 with_reducible refine WL.nil ⟨rfl, ?_⟩
 obtain ⟨x12, hx5, hr⟩ := bnd_some hr
 refine WLI.late (v := .pointer (some ⟨n2, 0 + x11.2.toNat * 1, none⟩)) (fun h => by cases h) rfl rfl (fun H2 hI2 => Step.indexLit rfl U31 info3 rfl rfl rfl hx5) ?_
 refine WLI.late (v := iv x12) (fun h => by cases h) rfl rfl (fun H2 hI2 => Step.load1' rfl U3 rfl rfl (hI2.elim (fun e => by rw [e]; exact h31.2.2.2) (fun h => h)) (lit_cell hx5)) ?_
 refine WLI.op (fun _ => h31.2.2.2) ?_
 obtain ⟨x13, hx6, hr⟩ := bnd_some hr
 refine GL.callIO g .w (fun i => (F7 i).isSome = true ∨ i = p0) rfl rfl rfl rfl rfl rfl Try.func98 rfl rfl (Nat.le_refl _) hS18.lo (f_spec_l00Src_next_k (x1 := (⟨x11.1.code, x11.1.at_, x11.1.seed⟩ : Gl00Src)) g (St.vis hS18 (fun i hi => .inl hi)) (vis_get ho17 (.inr (rfl))) fo7 lo7 h27 hx6) (fun v n9 H20 H21 hn7 hp5 hle6 hnew5 hk10 hd5 => ?_)
 obtain ⟨F8, a13, cap13, hX5, hS19, ho18, rfl, h32⟩ := hp5
 have hS20 : St lo n9 H20 _ := sA hS19 hnew5 hle6
 have h33 := OW.keep (n' := n9) h30 (by omega) (fun i hi => hk10 i (OW.id_lt h30 hi).2 (oE2 (nF (OW.fnone h30 hi)) (fun h => ap0 (h ▸ hi))))
 have h34 := RW.keep (n' := n9) h31 (by omega) (fun i hi => hk10 i (RW.id_lt h31 hi).2 (oE2 (nF (RW.fnone h31 hi)) (fun h => ap3 (h ▸ hi))))
 have fo8 := fA hX5 lt6 fo7
 have h35 := OW.keepF h33 hX5.sub (fun i hi => (hX5.eq i (by have := (OW.hb h30) i hi; omega)).trans (OW.fnone h33 hi))
 have h36 := RW.keepF h34 hX5.sub (fun i hi => (hX5.eq i (by have := (RW.hb h31) i hi; omega)).trans (RW.fnone h34 hi))
 have hE8 := (hE7.up (n' := n8) (by omega)).trans hX5
 have ho19 := hle6 _ _ ho18
 have hlon11 := hS20.lo
 have lt7 := hS20.lt ho19
 with_reducible refine WL.nil ⟨rfl, ?_⟩
 refine oP ?_
 refine WL.buildL .r (cells := [iv x12, iv x13.2, .slice none 0 0]) rfl rfl rfl U24 info24 rfl rfl rfl (by simp only [List.mapM_cons, List.mapM_nil, info3, info3, info22]; rfl) rfl (by first | rfl | ((conv => lhs; simp [splice, fillL, cells_int, cells_bool, cells_string, cells_str, cells_slice, cells_ptr, cells_map, cells_func, cells_nilFunc, cells_nilIface, cells_iface, cells_agg, cells_u8]) <;> rfl)) ?_
 with_reducible refine WL.nil ⟨rfl, ?_⟩
 refine oP ?_
 refine GL.lit (cs := [iv x12, iv x13.2, .slice none 0 0]) (xs := ([(⟨x12, x13.2, []⟩ : GEvent)] : List GEvent)) hS20 .r rfl rfl rfl U25 info24 rfl rfl rfl (by decide) (by decide) rfl rfl rfl rfl rfl (RA.cons (cs := [iv x12, iv x13.2, .slice none 0 0]) (a := ((⟨x12, x13.2, []⟩ : GEvent) : GEvent)) (GEvent.toR (x := (⟨x12, x13.2, []⟩ : GEvent)) SR.nil) RA.nil) rfl (fun H22 hS21 hO5 hk11 => ?_)
 have ho20 := oA hk11 ho19 lt7
 have h37 := kA (n' := (n9 + 1)) h35 hk11
 have h38 := RW.keep (n' := (n9 + 1)) h36 (by omega) (fun i hi => hk11 i (RW.id_lt h36 hi).2)
 have h39 := OW.lower (lo' := n0) hO5 (by omega)
 have hlon12 := hS21.lo
 with_reducible refine WL.nil ⟨rfl, ?_⟩
 refine WLI.op (fun _ => h38.2.2.2) ?_
 obtain ⟨hc6, hr⟩ := chk_some hr
 refine GL.append (α := GEvent) hS21 .w rfl rfl rfl U25 U25 rfl info24 rfl rfl rfl (by decide) rfl rfl h37 (by omega) (by omega) (OW.src h39) hc6 (fun a14 cap14 n10 H23 hS22 hn8 hO6 hk13 hid2 => ?_)
 have ho21 := (hk13 _ (by have := lt7; omega) ap0).trans ho20
 have hlon13 := hS22.lo
 with_reducible refine WL.nil ⟨rfl, ?_⟩
 refine oP (aR rfl ?_)
 with_reducible refine WL.nil ⟨rfl, ?_⟩
 refine WLI.nil (fun h => by cases h) ?_
 refine eB (eB (eT ?_))
 exact ⟨[(0, pt p0 0), (1, iv x8), (5, .slice a14 (xs0 ++ ([(⟨x12, x13.2, []⟩ : GEvent)] : List GEvent)).length cap14), (6, iv x0)], (fl4), a14, cap14, (xs0 ++ ([(⟨x12, x13.2, []⟩ : GEvent)] : List GEvent)), a13, cap13, x13.1.code, x13.1.at_, x13.1.seed, F8, rfl, hS22, (hE8.up (by omega)), ho21, fo8, hO6, h32, (Ap.new0 hid2 (by have := lt7; omega) ap0), hr⟩
 }
 {
 replace hr := ite_neg hr hc5
 refine wS (wR (bN rfl rfl (aN rfl (wN (eT ?_)))))
 refine W.condD rfl (fun hc7 => ?_) (fun hc7 => ?_)
 {
 replace hr := ite_pos hr hc7
 refine wS (wR (mN rfl ?_))
 obtain ⟨x14, hx7, hr⟩ := bnd_some hr
 refine GL.callIO g .nil (fun i => (F2 i).isSome = true ∨ i = p0) rfl rfl rfl rfl rfl rfl Try.func66 rfl rfl (Nat.le_refl _) hS3.lo (f_spec_l00Src_chance_k (x1 := (⟨x6.1.code, x6.1.at_, x6.1.seed⟩ : Gl00Src)) g (St.vis hS3 (fun i hi => .inl hi)) (vis_get ho2 (.inr (rfl))) fo1 lo7 h2 hx7) (fun v n11 H24 H25 hn9 hp6 hle7 hnew6 hk14 hd6 => ?_)
 obtain ⟨F9, a15, cap15, hX6, hS24, ho22, rfl, h41⟩ := hp6
 have hS25 : St lo n11 H24 _ := sA hS24 hnew6 hle7
 have h42 := OW.keep (n' := n11) h5 (by omega) (fun i hi => hk14 i (OW.id_lt h5 hi).2 (oE2 (nF (OW.fnone h5 hi)) (fun h => ap0 (h ▸ hi))))
 have fo9 := fA hX6 lt2 fo1
 have h43 := OW.keepF h42 hX6.sub (fun i hi => (hX6.eq i (by have := (OW.hb h5) i hi; omega)).trans (OW.fnone h42 hi))
 have hE9 := (hE2.up (n' := n2) (by omega)).trans hX6
 have ho23 := hle7 _ _ ho22
 have hlon14 := hS25.lo
 have lt8 := hS25.lt ho23
 refine wN (eT ?_)
 refine W.cond rfl (fun hc8 => ?_) (fun hc8 => ?_)
 {
 replace hr := iteB_pos hr hc8
 refine W.regionI (fun H => H n11 = some (.row (Rp.sz Int) [iv 5, iv 6])) [0, 1, 2, 6, 7, 3, 4, 5, 8, 9, 10, 11, 12] [(false, true, false), (false, true, false), (false, false, false), (false, true, false), (false, true, false), (true, false, false), (false, true, false), (false, true, false), (true, false, true), (false, false, false), (false, false, false), (true, false, true), (false, false, false)] false rfl kr kr mP ?_
 refine WLI.late (v := .slice a0 xs0.length cap0) (fun h => by cases h) rfl rfl (fun H2 hI2 => .move (.inl rfl) rfl) ?_
 refine GL.litLate (cs := [iv 5, iv 6]) (xs := ([5, 6] : List Int)) hS25 (fun h => by cases h) rfl rfl rfl U31 info3 rfl rfl rfl (by decide) (by decide) rfl rfl rfl rfl rfl (RA.cons (cs := [iv 5]) (a := (5 : Int)) rfl (RA.cons (cs := [iv 6]) (a := (6 : Int)) rfl RA.nil)) rfl (fun H h => h) (fun H26 hS27 hO7 hk15 hsl1 => ?_)
 have ho25 := oA hk15 ho23 lt8
 have h44 := kA (n' := (n11 + 1)) h43 hk15
 have h45 := OW.lower (lo' := n0) hO7 (by omega)
 have hlon15 := hS27.lo
 have rw1 : RW n0 (n11 + 1) H26 F9 n11 (.row (Rp.sz Int) [iv 5, iv 6]) := ⟨by omega, by omega, OW.fnone h45 rfl, hsl1⟩
 have ap4 : ¬ p0 = n11 := fun h => (Ap.fresh0 (OW.lb hO7) (by have := lt8; omega)) (congrArg some h.symm)
 refine oP (mR rfl ?_)
 with_reducible refine WL.nil ⟨rfl, ?_⟩
 refine WLI.late (v := pt p0 0) (fun h => by cases h) rfl rfl (fun H2 hI2 => .move (.inl rfl) rfl) ?_
 refine WLI.late (v := iv x8) (fun h => by cases h) rfl rfl (fun H2 hI2 => .move (.inl rfl) rfl) ?_
 refine oP ?_
 obtain ⟨x15, hx8, hr⟩ := bnd_some hr
 refine GL.callIO g .w (fun i => (F9 i).isSome = true ∨ i = p0) rfl rfl rfl rfl rfl rfl Try.func98 rfl rfl (Nat.le_refl _) hS27.lo (f_spec_l00Src_next_k (x1 := (⟨x14.1.code, x14.1.at_, x14.1.seed⟩ : Gl00Src)) g (St.vis hS27 (fun i hi => .inl hi)) (vis_get ho25 (.inr (rfl))) fo9 lo7 h41 hx8) (fun v n12 H27 H28 hn10 hp7 hle8 hnew7 hk16 hd7 => ?_)
 obtain ⟨F10, a16, cap16, hX7, hS28, ho26, rfl, h47⟩ := hp7
 have hS29 : St lo n12 H27 _ := sA hS28 hnew7 hle8
 have h49 := OW.keep (n' := n12) h44 (by omega) (fun i hi => hk16 i (OW.id_lt h44 hi).2 (oE2 (nF (OW.fnone h44 hi)) (fun h => ap0 (h ▸ hi))))
 have h50 := RW.keep (n' := n12) rw1 (by omega) (fun i hi => hk16 i (RW.id_lt rw1 hi).2 (oE2 (nF (RW.fnone rw1 hi)) (fun h => ap4 (h ▸ hi))))
 have fo10 := fA hX7 lt8 fo9
 have h51 := OW.keepF h49 hX7.sub (fun i hi => (hX7.eq i (by have := (OW.hb h44) i hi; omega)).trans (OW.fnone h49 hi))
 have h52 := RW.keepF h50 hX7.sub (fun i hi => (hX7.eq i (by have := (RW.hb rw1) i hi; omega)).trans (RW.fnone h50 hi))
 have hE10 := (hE9.up (n' := (n11 + 1)) (by omega)).trans hX7
 have ho27 := hle8 _ _ ho26
 have hlon16 := hS29.lo
 have lt9 := hS29.lt ho27
 with_reducible refine WL.nil ⟨rfl, ?_⟩
 obtain ⟨x16, hx9, hr⟩ := bnd_some hr
 refine WLI.late (v := .pointer (some ⟨n11, 0 + x15.2.toNat * 1, none⟩)) (fun h => by cases h) rfl rfl (fun H2 hI2 => Step.indexLit rfl U31 info3 rfl rfl rfl hx9) ?_
 refine WLI.late (v := iv x16) (fun h => by cases h) rfl rfl (fun H2 hI2 => Step.load1' rfl U3 rfl rfl (hI2.elim (fun e => by rw [e]; exact h52.2.2.2) (fun h => h)) (lit_cell hx9)) ?_
 refine WLI.op (fun _ => h52.2.2.2) ?_
 obtain ⟨x18, hx10, hr⟩ := bnd_some hr
 refine GL.callIO g .w (fun i => (F10 i).isSome = true ∨ i = p0) rfl rfl rfl rfl rfl rfl Try.func98 rfl rfl (Nat.le_refl _) hS29.lo (f_spec_l00Src_next_k (x1 := (⟨x15.1.code, x15.1.at_, x15.1.seed⟩ : Gl00Src)) g (St.vis hS29 (fun i hi => .inl hi)) (vis_get ho27 (.inr (rfl))) fo10 lo7 h47 hx10) (fun v n13 H29 H32 hn11 hp8 hle9 hnew8 hk17 hd8 => ?_)
 obtain ⟨F11, a17, cap17, hX8, hS30, ho28, rfl, h53⟩ := hp8
 have hS31 : St lo n13 H29 _ := sA hS30 hnew8 hle9
 have h54 := OW.keep (n' := n13) h51 (by omega) (fun i hi => hk17 i (OW.id_lt h51 hi).2 (oE2 (nF (OW.fnone h51 hi)) (fun h => ap0 (h ▸ hi))))
 have h55 := RW.keep (n' := n13) h52 (by omega) (fun i hi => hk17 i (RW.id_lt h52 hi).2 (oE2 (nF (RW.fnone h52 hi)) (fun h => ap4 (h ▸ hi))))
 have fo11 := fA hX8 lt9 fo10
 have h56 := OW.keepF h54 hX8.sub (fun i hi => (hX8.eq i (by have := (OW.hb h51) i hi; omega)).trans (OW.fnone h54 hi))
 have h57 := RW.keepF h55 hX8.sub (fun i hi => (hX8.eq i (by have := (RW.hb h52) i hi; omega)).trans (RW.fnone h55 hi))
 have hE11 := (hE10.up (n' := n12) (by omega)).trans hX8
 have ho29 := hle9 _ _ ho28
 have hlon17 := hS31.lo
 have lt10 := hS31.lt ho29
 with_reducible refine WL.nil ⟨rfl, ?_⟩
 refine oP ?_
 refine WL.buildL .r (cells := [iv x16, iv x18.2, .slice none 0 0]) rfl rfl rfl U24 info24 rfl rfl rfl (by simp only [List.mapM_cons, List.mapM_nil, info3, info3, info22]; rfl) rfl (by first | rfl | ((conv => lhs; simp [splice, fillL, cells_int, cells_bool, cells_string, cells_str, cells_slice, cells_ptr, cells_map, cells_func, cells_nilFunc, cells_nilIface, cells_iface, cells_agg, cells_u8]) <;> rfl)) ?_
 with_reducible refine WL.nil ⟨rfl, ?_⟩
 refine oP ?_
 refine GL.lit (cs := [iv x16, iv x18.2, .slice none 0 0]) (xs := ([(⟨x16, x18.2, []⟩ : GEvent)] : List GEvent)) hS31 .r rfl rfl rfl U25 info24 rfl rfl rfl (by decide) (by decide) rfl rfl rfl rfl rfl (RA.cons (cs := [iv x16, iv x18.2, .slice none 0 0]) (a := ((⟨x16, x18.2, []⟩ : GEvent) : GEvent)) (GEvent.toR (x := (⟨x16, x18.2, []⟩ : GEvent)) SR.nil) RA.nil) rfl (fun H33 hS32 hO8 hk18 => ?_)
 have ho30 := oA hk18 ho29 lt10
 have h58 := kA (n' := (n13 + 1)) h56 hk18
 have h59 := RW.keep (n' := (n13 + 1)) h57 (by omega) (fun i hi => hk18 i (RW.id_lt h57 hi).2)
 have h60 := OW.lower (lo' := n0) hO8 (by omega)
 have hlon19 := hS32.lo
 with_reducible refine WL.nil ⟨rfl, ?_⟩
 refine WLI.op (fun _ => h59.2.2.2) ?_
 obtain ⟨hc9, hr⟩ := chk_some hr
 refine GL.append (α := GEvent) hS32 .w rfl rfl rfl U25 U25 rfl info24 rfl rfl rfl (by decide) rfl rfl h58 (by omega) (by omega) (OW.src h60) hc9 (fun a18 cap18 n14 H34 hS33 hn12 hO9 hk19 hid3 => ?_)
 have ho31 := (hk19 _ (by have := lt10; omega) ap0).trans ho30
 have hlon20 := hS33.lo
 with_reducible refine WL.nil ⟨rfl, ?_⟩
 refine oP (aR rfl ?_)
 with_reducible refine WL.nil ⟨rfl, ?_⟩
 refine WLI.nil (fun h => by cases h) ?_
 refine eB (eB (eT ?_))
 exact ⟨[(0, pt p0 0), (1, iv x8), (5, .slice a18 (xs0 ++ ([(⟨x16, x18.2, []⟩ : GEvent)] : List GEvent)).length cap18), (6, iv x0)], (fl4), a18, cap18, (xs0 ++ ([(⟨x16, x18.2, []⟩ : GEvent)] : List GEvent)), a17, cap17, x18.1.code, x18.1.at_, x18.1.seed, F11, rfl, hS33, (hE11.up (by omega)), ho31, fo11, hO9, h53, (Ap.new0 hid3 (by have := lt10; omega) ap0), hr⟩
 }
 {
 replace hr := iteB_neg hr hc8
 refine wK (eB (eB (eT ?_)))
 exact ⟨[(0, pt p0 0), (1, iv x8), (5, .slice a0 xs0.length cap0), (6, iv x0)], (fl4), a0, cap0, xs0, a15, cap15, x14.1.code, x14.1.at_, x14.1.seed, F9, rfl, hS25, hE9, ho23, fo9, h43, h41, ap0, hr⟩
 }
 }
 {
 replace hr := ite_neg hr hc7
 refine wR (mN rfl (mN rfl ?_))
 obtain ⟨x19, hx11, hr⟩ := bnd_some hr
 refine GL.callIO g .nil (fun i => (F2 i).isSome = true ∨ i = p0) rfl rfl rfl rfl rfl rfl Try.func98 rfl rfl (Nat.le_refl _) hS3.lo (f_spec_l00Src_next_k (x1 := (⟨x6.1.code, x6.1.at_, x6.1.seed⟩ : Gl00Src)) g (St.vis hS3 (fun i hi => .inl hi)) (vis_get ho2 (.inr (rfl))) fo1 lo7 h2 hx11) (fun v n15 H35 H36 hn13 hp9 hle10 hnew9 hk20 hd9 => ?_)
 obtain ⟨F12, a19, cap19, hX9, hS34, ho32, rfl, h61⟩ := hp9
 have hS35 : St lo n15 H35 _ := sA hS34 hnew9 hle10
 have h62 := OW.keep (n' := n15) h5 (by omega) (fun i hi => hk20 i (OW.id_lt h5 hi).2 (oE2 (nF (OW.fnone h5 hi)) (fun h => ap0 (h ▸ hi))))
 have fo12 := fA hX9 lt2 fo1
 have h63 := OW.keepF h62 hX9.sub (fun i hi => (hX9.eq i (by have := (OW.hb h5) i hi; omega)).trans (OW.fnone h62 hi))
 have hE12 := (hE2.up (n' := n2) (by omega)).trans hX9
 have ho33 := hle10 _ _ ho32
 have hlon21 := hS35.lo
 have lt11 := hS35.lt ho33
 refine WL.buildL .nil (cells := [iv 2, iv x19.2, .slice none 0 0]) rfl rfl rfl U24 info24 rfl rfl rfl (by simp only [List.mapM_cons, List.mapM_nil, info3, info3, info22]; rfl) rfl (by first | rfl | ((conv => lhs; simp [splice, fillL, cells_int, cells_bool, cells_string, cells_str, cells_slice, cells_ptr, cells_map, cells_func, cells_nilFunc, cells_nilIface, cells_iface, cells_agg, cells_u8]) <;> rfl)) ?_
 refine GL.lit (cs := [iv 2, iv x19.2, .slice none 0 0]) (xs := ([(⟨2, x19.2, []⟩ : GEvent)] : List GEvent)) hS35 .nil rfl rfl rfl U25 info24 rfl rfl rfl (by decide) (by decide) rfl rfl rfl rfl rfl (RA.cons (cs := [iv 2, iv x19.2, .slice none 0 0]) (a := ((⟨2, x19.2, []⟩ : GEvent) : GEvent)) (GEvent.toR (x := (⟨2, x19.2, []⟩ : GEvent)) SR.nil) RA.nil) rfl (fun H37 hS36 hO10 hk22 => ?_)
 have ho34 := oA hk22 ho33 lt11
 have h64 := kA (n' := (n15 + 1)) h63 hk22
 have h65 := OW.lower (lo' := n0) hO10 (by omega)
 have hlon22 := hS36.lo
 obtain ⟨hc10, hr⟩ := chk_some hr
 refine GL.append (α := GEvent) hS36 .nil rfl rfl rfl U25 U25 rfl info24 rfl rfl rfl (by decide) rfl rfl h64 (by omega) (by omega) (OW.src h65) hc10 (fun a20 cap20 n16 H38 hS37 hn14 hO12 hk23 hid4 => ?_)
 have ho35 := (hk23 _ (by have := lt11; omega) ap0).trans ho34
 have hlon23 := hS37.lo
 refine aN rfl (wN (eB (eB (eT ?_))))
 exact ⟨[(0, pt p0 0), (1, iv x8), (5, .slice a20 (xs0 ++ ([(⟨2, x19.2, []⟩ : GEvent)] : List GEvent)).length cap20), (6, iv x0)], (fl4), a20, cap20, (xs0 ++ ([(⟨2, x19.2, []⟩ : GEvent)] : List GEvent)), a19, cap19, x19.1.code, x19.1.at_, x19.1.seed, F12, rfl, hS37, (hE12.up (by omega)), ho35, fo12, hO12, h61, (Ap.new0 hid4 (by have := lt11; omega) ap0), hr⟩
 }
 }
 }
 }
 }
 {
 intro _ n17 H39 hI
 obtain ⟨a3, cap2, xs2, a4, cap4, xs3, x4, x5, F13, rfl, hS38, hE13, ho36, fo13, h66, h67, ap5, hr⟩ := hI
 have lt12 := hS38.lt ho36
 have hlen1 := hE13.le
 have hlon24 := hS38.lo
 unfold f_spec_l00Src_events_J1 at hr
 refine wR (mN rfl ?_)
 obtain ⟨hc11, hr⟩ := chk_some hr
 refine WL.subI .nil rfl rfl rfl rfl rfl hc11.1 hc11.2 (aN rfl (wN (eT ?_)))
 exact ⟨[(0, pt p0 0), (1, iv x8), (5, .slice a3 xs2.length cap2), (6, iv (x0 - 1))], (fl4), a3, cap2, xs2, (x0 - 1), a4, cap4, xs3, x4, x5, F13, rfl, hS38, hE13, ho36, fo13, h66, h67, ap5, hr⟩
 }
 }
 {
 replace hr := ite_neg hr hc0
 refine W.exit (eX (eX (eH (eT (wS (wR (mN rfl (aN rfl (wN (eT (W.ret ?_)))))))))))
 obtain rfl := Option.some.inj hr
 exact ⟨.inr rfl, _, (.cons (.tmp rfl) .nil), ⟨F1, a1, cap1, a0, cap0, (hE1.up (by omega)), hS1, ho0, rfl, h1, h0⟩⟩
 }
 }
theorem f_spec_l00Src_anyEvents_k {Δ : Prims} (g : Env Try.prog Δ) {lo n0 : Nat} {H0 F0 : Heap} (hS : St lo n0 H0 F0) {p0 : Nat} {x1 : Gl00Src} {ez0 : Nat} {a2 : Option Addr} {cap3 : Nat} {x8 : Int} (ho5 : H0 p0 = some (.row ez0 [.slice a2 x1.code.length cap3, iv x1.at_, iv x1.seed])) (fo6 : F0 p0 = none) (lo7 : lo ≤ p0) (h4 : SR F0 (.slice a2 x1.code.length cap3) x1.code) {res : (Gl00Src × (List GEvent))} (hr : f_spec_l00Src_anyEvents x1 x8 = some res) :
    C Try.prog Δ lo 65 [pt p0 0, iv x8] n0 H0 (fun v n H => ∃ (F : Heap) (ra1 : OA) (rcap2 : Nat) (ra4 : OA) (rcap5 : Nat), Ext n0 F0 n F ∧ St lo n H F ∧ H p0 = some (.row ez0 [.slice ra1 res.1.code.length rcap2, iv res.1.at_, iv res.1.seed]) ∧ v = .slice ra4 res.2.length rcap5 ∧ SR F (.slice ra1 res.1.code.length rcap2) res.1.code ∧ Ow n0 n H F ra4 rcap5 res.2) := by
 refine C.body Try.func65 rfl rfl ?_
 unfold f_spec_l00Src_anyEvents at hr
 have hS0 : St lo n0 H0 F0 := hS
 have hE0 := Ext.refl n0 F0
 have hlo0 := hS0.lo
 have lt0 := hS0.lt ho5
 refine wS (wR (aN rfl (wN (eT (wS (wR (mN rfl (mN rfl ?_))))))))
 obtain ⟨x9, hx9, hr⟩ := bnd_some hr
 refine GL.callIO g .nil (fun i => (F0 i).isSome = true ∨ i = p0) rfl rfl rfl rfl rfl rfl Try.func96 rfl rfl (Nat.le_refl _) hS0.lo (f_spec_l00Src_calm_k (x1 := (⟨x1.code, x1.at_, x1.seed⟩ : Gl00Src)) g (St.vis hS0 (fun i hi => .inl hi)) (vis_get ho5 (.inr (rfl))) fo6 lo7 h4 hx9) (fun v n10 H11 H12 hn13 hp14 hle15 hnew16 hk17 hd18 => ?_)
 obtain ⟨F26, a19, cap20, a22, cap23, hX27, hS25, ho28, rfl, h21, h24⟩ := hp14
 have hS29 : St lo n10 H11 _ := sA hS25 hnew16 hle15
 have fo30 := fA hX27 lt0 fo6
 have hE31 := (hE0.up (n' := n0) (by omega)).trans hX27
 have ho32 := hle15 _ _ ho28
 have h34 := OW.lower (lo' := n0) (OW.le h24 hle15) (by omega)
 have ap35 : nP (.slice a22 x9.2.length cap23) p0 := fun hj => by have := (OW.id_lt h24 hj).1; have := lt0; omega
 have hlon10 := hS29.lo
 have lt36 := hS29.lt ho32
 refine aN rfl (wN (eT (wS (wR (mN rfl (mN rfl (mN rfl ?_)))))))
 obtain ⟨x37, hx37, hr⟩ := bnd_some hr
 refine GL.callIO g .nil (fun i => (F26 i).isSome = true ∨ i = p0) rfl rfl rfl rfl rfl rfl Try.func97 rfl rfl (Nat.le_refl _) hS29.lo (f_spec_l00Src_events_k (x1 := (⟨x9.1.code, x9.1.at_, x9.1.seed⟩ : Gl00Src)) g (St.vis hS29 (fun i hi => .inl hi)) (vis_get ho32 (.inr (rfl))) fo30 lo7 h21 hx37) (fun v n38 H39 H40 hn41 hp42 hle43 hnew44 hk45 hd46 => ?_)
 obtain ⟨F54, a47, cap48, a50, cap51, hX55, hS53, ho56, rfl, h49, h52⟩ := hp42
 have hS57 : St lo n38 H39 _ := sA hS53 hnew44 hle43
 have h58 := OW.keep (n' := n38) h34 (by omega) (fun i hi => hk45 i (OW.id_lt h34 hi).2 (oE2 (nF (OW.fnone h34 hi)) (fun h => ap35 (h ▸ hi))))
 have fo59 := fA hX55 lt36 fo30
 have h60 := OW.keepF h58 hX55.sub (fun i hi => (hX55.eq i (by have := (OW.hb h34) i hi; omega)).trans (OW.fnone h58 hi))
 have hE61 := (hE31.up (n' := n10) (by omega)).trans hX55
 have ho62 := hle43 _ _ ho56
 have h64 := OW.lower (lo' := n0) (OW.le h52 hle43) (by omega)
 have hlon38 := hS57.lo
 have lt67 := hS57.lt ho62
 obtain ⟨hc68, hr⟩ := chk_some hr
 refine GL.append (α := GEvent) hS57 .nil rfl rfl rfl U25 U25 rfl info24 rfl rfl rfl (by decide) rfl rfl h60 (by omega) (by omega) (OW.src h64) hc68 (fun a69 cap70 n71 H72 hS73 hn74 hO75 hk76 hid77 => ?_)
 have ho78 := (hk76 _ (by have := lt67; omega) ap35).trans ho62
 have hlon71 := hS73.lo
 refine aN rfl (wN (eT (wS (wS (wR (mN rfl ?_))))))
 obtain ⟨x83, hx83, hr⟩ := bnd_some hr
 refine GL.callIO g .nil (fun i => (F54 i).isSome = true ∨ i = p0) rfl rfl rfl rfl rfl rfl Try.func66 rfl rfl (Nat.le_refl _) hS73.lo (f_spec_l00Src_chance_k (x1 := (⟨x37.1.code, x37.1.at_, x37.1.seed⟩ : Gl00Src)) g (St.vis hS73 (fun i hi => .inl hi)) (vis_get ho78 (.inr (rfl))) fo59 lo7 h49 hx83) (fun v n84 H85 H86 hn87 hp88 hle89 hnew90 hk91 hd92 => ?_)
 obtain ⟨F97, a93, cap94, hX98, hS96, ho99, rfl, h95⟩ := hp88
 have hS1 : St lo n84 H85 _ := sA hS96 hnew90 hle89
 have h0 := OW.keep (n' := n84) hO75 (by omega) (fun i hi => hk91 i (OW.id_lt hO75 hi).2 (oE2 (nF (OW.fnone hO75 hi)) (fun h => (Ap.new0 hid77 (by have := lt67; omega) ap35) (h ▸ hi))))
 have fo0 := fA hX98 lt67 fo59
 have h1 := OW.keepF h0 hX98.sub (fun i hi => (hX98.eq i (by have := (OW.hb hO75) i hi; omega)).trans (OW.fnone h0 hi))
 have hE1 := (hE61.up (n' := n71) (by omega)).trans hX98
 have ho0 := hle89 _ _ ho99
 have hlon84 := hS1.lo
 have lt1 := hS1.lt ho0
 refine wN (eT ?_)
 refine W.cut (fun fr n H => ∃ (a0 : OA) (cap0 : Nat) (xs0 : (List GEvent)) (a1 : OA) (cap1 : Nat) (xs1 : (List UInt8)) (x0 : Int) (x2 : Int) (F : Heap), fr = [(5, .slice a0 xs0.length cap0)] ∧ St lo n H F ∧ Ext n0 F0 n F ∧ H p0 = some (.row ez0 [.slice a1 xs1.length cap1, iv x0, iv x2]) ∧ F p0 = none ∧ Ow n0 n H F a0 cap0 xs0 ∧ SR F (.slice a1 xs1.length cap1) xs1 ∧ nP (.slice a0 xs0.length cap0) p0 ∧ f_spec_l00Src_anyEvents_J0 xs0 xs1 x0 x2 = some res) ?_ ?_
 {
 refine W.cond rfl (fun hc0 => ?_) (fun hc0 => ?_)
 {
 replace hr := iteB_pos hr hc0
 refine wR (mN rfl (mN rfl (mN rfl ?_)))
 obtain ⟨x3, hx0, hr⟩ := bnd_some hr
 refine GL.callIO g .nil (fun i => (F97 i).isSome = true ∨ i = p0) rfl rfl rfl rfl rfl rfl Try.func96 rfl rfl (Nat.le_refl _) hS1.lo (f_spec_l00Src_calm_k (x1 := (⟨x83.1.code, x83.1.at_, x83.1.seed⟩ : Gl00Src)) g (St.vis hS1 (fun i hi => .inl hi)) (vis_get ho0 (.inr (rfl))) fo0 lo7 h95 hx0) (fun v n1 H1 H2 hn0 hp0 hle0 hnew0 hk0 hd0 => ?_)
 obtain ⟨F1, a3, cap2, a4, cap4, hX0, hS2, ho1, rfl, h2, h3⟩ := hp0
 have hS3 : St lo n1 H1 _ := sA hS2 hnew0 hle0
 have h5 := OW.keep (n' := n1) h1 (by omega) (fun i hi => hk0 i (OW.id_lt h1 hi).2 (oE2 (nF (OW.fnone h1 hi)) (fun h => (Ap.new0 hid77 (by have := lt67; omega) ap35) (h ▸ hi))))
 have fo1 := fA hX0 lt1 fo0
 have h6 := OW.keepF h5 hX0.sub (fun i hi => (hX0.eq i (by have := (OW.hb h1) i hi; omega)).trans (OW.fnone h5 hi))
 have hE2 := (hE1.up (n' := n84) (by omega)).trans hX0
 have ho2 := hle0 _ _ ho1
 have h7 := OW.lower (lo' := n0) (OW.le h3 hle0) (by omega)
 have hlon0 := hS3.lo
 have lt2 := hS3.lt ho2
 obtain ⟨hc1, hr⟩ := chk_some hr
 refine GL.append (α := GEvent) hS3 .nil rfl rfl rfl U25 U25 rfl info24 rfl rfl rfl (by decide) rfl rfl h6 (by omega) (by omega) (OW.src h7) hc1 (fun a5 cap5 n2 H3 hS4 hn1 hO0 hk1 hid0 => ?_)
 have ho3 := (hk1 _ (by have := lt2; omega) (Ap.new0 hid77 (by have := lt67; omega) ap35)).trans ho2
 have hlon1 := hS4.lo
 refine aN rfl (wN (eT ?_))
 exact ⟨[(5, .slice a5 ((x9.2 ++ x37.2) ++ x3.2).length cap5)], (fl1), a5, cap5, ((x9.2 ++ x37.2) ++ x3.2), a3, cap2, x3.1.code, x3.1.at_, x3.1.seed, F1, rfl, hS4, (hE2.up (by omega)), ho3, fo1, hO0, h2, (Ap.new0 hid0 (by have := lt2; omega) (Ap.new0 hid77 (by have := lt67; omega) ap35)), hr⟩
 }
 {
 replace hr := iteB_neg hr hc0
 refine wK (eT ?_)
 exact ⟨[(5, .slice a69 (x9.2 ++ x37.2).length cap70)], (fl1), a69, cap70, (x9.2 ++ x37.2), a93, cap94, x83.1.code, x83.1.at_, x83.1.seed, F97, rfl, hS1, hE1, ho0, fo0, h1, h95, (Ap.new0 hid77 (by have := lt67; omega) ap35), hr⟩
 }
 }
 {
 intro _ n3 H4 hI
 obtain ⟨a0, cap0, xs0, a1, cap1, xs1, x0, x2, F2, rfl, hS5, hE3, ho4, fo2, h8, h9, ap0, hr⟩ := hI
 have lt3 := hS5.lt ho4
 have hlen0 := hE3.le
 have hlon2 := hS5.lo
 unfold f_spec_l00Src_anyEvents_J0 at hr
 refine wS (wR (mN rfl (mN rfl (WL.len .nil rfl rfl rfl U25 rfl (WL.min2 .nil rfl rfl rfl rfl rfl ?_)))))
 obtain ⟨xs2, hxs0, hr⟩ := bnd_some hr
 refine GL.sliceO .nil rfl rfl rfl U25 info24 rfl rfl h8 rfl ⟨_, rfl⟩ hxs0 (fun a6 cap6 hid1 h10 => ?_)
 refine aN rfl (wN (eT (W.ret ?_)))
 obtain rfl := Option.some.inj hr
 exact ⟨.inr rfl, _, (.cons (.tmp rfl) .nil), ⟨F2, a1, cap1, a6, cap6, (hE3.up (by omega)), hS5, ho4, rfl, h9, h10⟩⟩
 }
theorem f_spec_l00Src_pick_k {Δ : Prims} (g : Env Try.prog Δ) {lo n0 : Nat} {H0 F0 : Heap} (hS : St lo n0 H0 F0) {p0 : Nat} {x1 : Gl00Src} {ez0 : Nat} {a2 : Option Addr} {cap3 : Nat} {a9 : Option Addr} {cap10 : Nat} {xs8 : (List Str)} (ho5 : H0 p0 = some (.row ez0 [.slice a2 x1.code.length cap3, iv x1.at_, iv x1.seed])) (fo6 : F0 p0 = none) (lo7 : lo ≤ p0) (h4 : SR F0 (.slice a2 x1.code.length cap3) x1.code) (h11 : SR F0 (.slice a9 xs8.length cap10) xs8) {res : (Gl00Src × Str)} (hr : f_spec_l00Src_pick x1 xs8 = some res) :
    C Try.prog Δ lo 102 [pt p0 0, .slice a9 xs8.length cap10] n0 H0 (fun v n H => ∃ (F : Heap) (ra1 : OA) (rcap2 : Nat), Ext n0 F0 n F ∧ St lo n H F ∧ H p0 = some (.row ez0 [.slice ra1 res.1.code.length rcap2, iv res.1.at_, iv res.1.seed]) ∧ v = str res.2 ∧ SR F (.slice ra1 res.1.code.length rcap2) res.1.code) := by
 refine C.body Try.func102 rfl rfl ?_
 unfold f_spec_l00Src_pick at hr
 have hS0 : St lo n0 H0 F0 := hS
 have hE0 := Ext.refl n0 F0
 have hlo0 := hS0.lo
 have lt0 := hS0.lt ho5
 refine wS (wR (aN rfl (wN (eT (wS (wS (wR (mN rfl (WL.len .nil rfl rfl rfl U115 rfl (bN rfl rfl (wN ?_)))))))))))
 refine eT ?_
 refine W.condD rfl (fun hc13 => ?_) (fun hc13 => ?_)
 {
 replace hr := ite_pos hr hc13
 refine wS (wR (aN rfl (wN (eT (W.ret (eR ?_))))))
 obtain rfl := Option.some.inj hr
 exact ⟨.inr rfl, _, (.cons (.tmp rfl) .nil), ⟨F0, a2, cap3, (hE0.up (by omega)), hS0, ho5, rfl, h4⟩⟩
 }
 {
 replace hr := ite_neg hr hc13
 refine wK (eT (wS (wR (mN rfl (mN rfl (mN rfl (WL.len .nil rfl rfl rfl U115 rfl ?_)))))))
 obtain ⟨x14, hx14, hr⟩ := bnd_some hr
 refine GL.callIO g .nil (fun i => (F0 i).isSome = true ∨ i = p0) rfl rfl rfl rfl rfl rfl Try.func98 rfl rfl (Nat.le_refl _) hS0.lo (f_spec_l00Src_next_k (x1 := (⟨x1.code, x1.at_, x1.seed⟩ : Gl00Src)) g (St.vis hS0 (fun i hi => .inl hi)) (vis_get ho5 (.inr (rfl))) fo6 lo7 h4 hx14) (fun v n15 H16 H17 hn18 hp19 hle20 hnew21 hk22 hd23 => ?_)
 obtain ⟨F28, a24, cap25, hX29, hS27, ho30, rfl, h26⟩ := hp19
 have hS31 : St lo n15 H16 _ := sA hS27 hnew21 hle20
 have hE33 := (hE0.up (n' := n0) (by omega)).trans hX29
 have ho34 := hle20 _ _ ho30
 have hlon15 := hS31.lo
 have lt35 := hS31.lt ho34
 obtain ⟨x36, hx36, hr⟩ := bnd_some hr
 refine GL.index .nil rfl rfl rfl U115 info9 rfl rfl (h11.mono hX29.sub) hS31.fh rfl hx36 (fun b37 kp38 c39 ecs40 hrow41 hwin42 hR43 => ?_)
 have hcs : _ = ([str x36] : List Value) := hR43
 subst hcs
 refine lN rfl U9 rfl hrow41 ((win_get0 hwin42 (show (0 : Nat) < 1 by decide)).trans rfl) (aN rfl (wN (eT (W.ret ?_))))
 obtain rfl := Option.some.inj hr
 exact ⟨.inr rfl, _, (.cons (.tmp rfl) .nil), ⟨F28, a24, cap25, (hE33.up (by omega)), hS31, ho34, rfl, h26⟩⟩
 }
theorem f_spec_l00Src_job_k {Δ : Prims} (g : Env Try.prog Δ) {lo n0 : Nat} {H0 F0 : Heap} (hS : St lo n0 H0 F0) {p0 : Nat} {x1 : Gl00Src} {ez0 : Nat} {a2 : Option Addr} {cap3 : Nat} (ho5 : H0 p0 = some (.row ez0 [.slice a2 x1.code.length cap3, iv x1.at_, iv x1.seed])) (fo6 : F0 p0 = none) (lo7 : lo ≤ p0) (h4 : SR F0 (.slice a2 x1.code.length cap3) x1.code) {res : (Gl00Src × GJob)} (hr : f_spec_l00Src_job x1 = some res) :
    C Try.prog Δ lo 68 [pt p0 0] n0 H0 (fun v n H => ∃ (F : Heap) (ra1 : OA) (rcap2 : Nat), Ext n0 F0 n F ∧ St lo n H F ∧ H p0 = some (.row ez0 [.slice ra1 res.1.code.length rcap2, iv res.1.at_, iv res.1.seed]) ∧ v = .agg [iv res.2.Client, iv res.2.Seq, str res.2.File, iv res.2.Version, str res.2.Script, str res.2.Text, .bool res.2.Ere, .bool res.2.Quiet].toArray ∧ SR F (.slice ra1 res.1.code.length rcap2) res.1.code) := by
 refine C.body Try.func68 rfl rfl ?_
 unfold f_spec_l00Src_job at hr
 have hS0 : St lo n0 H0 F0 := hS
 have hE0 := Ext.refl n0 F0
 have hlo0 := hS0.lo
 have lt0 := hS0.lt ho5
 refine wS (wR ?_)
 refine GL.alloc hS0 .nil (zc := [iv 0, iv 0, str ([] : List UInt8), iv 0, str ([] : List UInt8), str ([] : List UInt8), .bool false, .bool false]) rfl rfl rfl info100 rfl rfl rfl (fun H8 hS9 ho10 hk11 => ?_)
 have fo12 := hS0.fnone (Nat.le_refl _)
 have ho14 := oA hk11 ho5 lt0
 have hlon01 := hS9.lo
 have lt13 : n0 < (n0 + 1) := by omega
 refine wN (eT (wS (wR (mN rfl ?_))))
 obtain ⟨x15, hx15, hr⟩ := bnd_some hr
 refine GL.callIO g .nil (fun i => (F0 i).isSome = true ∨ i = p0) rfl rfl rfl rfl rfl rfl Try.func98 rfl rfl (Nat.le_refl _) hS9.lo (f_spec_l00Src_next_k (x1 := (⟨x1.code, x1.at_, x1.seed⟩ : Gl00Src)) g (St.vis hS9 (fun i hi => .inl hi)) (vis_get ho14 (.inr (rfl))) fo6 lo7 h4 hx15) (fun v n16 H17 H18 hn19 hp20 hle21 hnew22 hk23 hd24 => ?_)
 obtain ⟨F29, a25, cap26, hX30, hS28, ho31, rfl, h27⟩ := hp20
 have hS32 : St lo n16 H17 _ := sA hS28 hnew22 hle21
 have ho33 := (hk23 _ (by have := lt13; omega) (oE2 (nF fo12) (by omega))).trans ho10
 have fo34 := fA hX30 lt0 fo6
 have fo35 := fA hX30 lt13 fo12
 have hE36 := (hE0.up (n' := (n0 + 1)) (by omega)).trans hX30
 have ho37 := hle21 _ _ ho31
 have hlon16 := hS32.lo
 have lt38 := hS32.lt ho37
 have lt39 := hS32.lt ho33
 obtain ⟨hc40, hr⟩ := chk_some hr
 refine WL.addI .nil rfl rfl rfl rfl rfl hc40.1 hc40.2 (mN rfl ?_)
 obtain ⟨x41, hx41, hr⟩ := bnd_some hr
 refine GL.callIO g .nil (fun i => (F29 i).isSome = true ∨ i = p0) rfl rfl rfl rfl rfl rfl Try.func98 rfl rfl (Nat.le_refl _) hS32.lo (f_spec_l00Src_next_k (x1 := (⟨x15.1.code, x15.1.at_, x15.1.seed⟩ : Gl00Src)) g (St.vis hS32 (fun i hi => .inl hi)) (vis_get ho37 (.inr (rfl))) fo34 lo7 h27 hx41) (fun v n42 H43 H44 hn45 hp46 hle47 hnew48 hk49 hd50 => ?_)
 obtain ⟨F55, a51, cap52, hX56, hS54, ho57, rfl, h53⟩ := hp46
 have hS58 : St lo n42 H43 _ := sA hS54 hnew48 hle47
 have ho59 := (hk49 _ (by have := lt39; omega) (oE2 (nF fo35) (by omega))).trans ho33
 have fo60 := fA hX56 lt38 fo34
 have fo61 := fA hX56 lt39 fo35
 have hE62 := (hE36.up (n' := n16) (by omega)).trans hX56
 have ho63 := hle47 _ _ ho57
 have hlon42 := hS58.lo
 have lt64 := hS58.lt ho63
 have lt65 := hS58.lt ho59
 obtain ⟨hc66, hr⟩ := chk_some hr
 refine WL.addI .nil rfl rfl rfl rfl rfl hc66.1 hc66.2 (mN rfl ?_)
 refine GL.lit (cs := [str ([97] : List UInt8), str ([98] : List UInt8), str ([100, 101, 115, 107] : List UInt8)]) (xs := ([([97] : List UInt8), ([98] : List UInt8), ([100, 101, 115, 107] : List UInt8)] : List Str)) hS58 .nil rfl rfl rfl U115 info9 rfl rfl rfl (by decide) (by decide) rfl rfl rfl rfl rfl (RA.cons (α := Str) (cs := [str ([97] : List UInt8)]) (a := (([97] : List UInt8) : Str)) rfl (RA.cons (α := Str) (cs := [str ([98] : List UInt8)]) (a := (([98] : List UInt8) : Str)) rfl (RA.cons (α := Str) (cs := [str ([100, 101, 115, 107] : List UInt8)]) (a := (([100, 101, 115, 107] : List UInt8) : Str)) rfl RA.nil))) rfl (fun H67 hS68 hO69 hk70 => ?_)
 have ho71 := oA hk70 ho63 lt64
 have ho72 := oA hk70 ho59 lt65
 have h73 := OW.lower (lo' := n0) hO69 (by omega)
 have hlon0 := hS68.lo
 obtain ⟨F77, hS78, hle79, h80, hf81⟩ := OW.freeze h73 hS68
 have fo82 := (hf81 _ (Ap.fresh0 (OW.lb hO69) (by have := lt64; omega))).trans fo60
 have fo83 := (hf81 _ (Ap.fresh0 (OW.lb hO69) (by have := lt65; omega))).trans fo61
 have hE84 : Ext n0 F0 (n42 + 1) F77 := ⟨Nat.le_trans hE62.le (by omega), hE62.sub.trans hle79, fun i hi => (hf81 i (fun hj => by have := OW.id_lt h73 hj; omega)).trans (hE62.eq i hi)⟩
 obtain ⟨x85, hx85, hr⟩ := bnd_some hr
 refine GL.callIO g .nil (fun i => (F77 i).isSome = true ∨ i = p0) rfl rfl rfl rfl rfl rfl Try.func102 rfl rfl (Nat.le_refl _) hS78.lo (f_spec_l00Src_pick_k (x1 := (⟨x41.1.code, x41.1.at_, x41.1.seed⟩ : Gl00Src)) g (St.vis hS78 (fun i hi => .inl hi)) (vis_get ho71 (.inr (rfl))) fo82 lo7 (h53.mono hle79) h80 hx85) (fun v n86 H87 H88 hn89 hp90 hle91 hnew92 hk93 hd94 => ?_)
 obtain ⟨F99, a95, cap96, hX0, hS98, ho0, rfl, h97⟩ := hp90
 have hS1 : St lo n86 H87 _ := sA hS98 hnew92 hle91
 have ho1 := (hk93 _ (by have := lt65; omega) (oE2 (nF fo83) (by omega))).trans ho72
 have fo0 := fA hX0 lt64 fo82
 have fo1 := fA hX0 lt65 fo83
 have hE1 := (hE84.up (n' := (n42 + 1)) (by omega)).trans hX0
 have ho2 := hle91 _ _ ho0
 have hlon86 := hS1.lo
 have lt1 := hS1.lt ho2
 have lt2 := hS1.lt ho1
 refine mN rfl ?_
 obtain ⟨x0, hx0, hr⟩ := bnd_some hr
 refine GL.callIO g .nil (fun i => (F99 i).isSome = true ∨ i = p0) rfl rfl rfl rfl rfl rfl Try.func98 rfl rfl (Nat.le_refl _) hS1.lo (f_spec_l00Src_next_k (x1 := (⟨x85.1.code, x85.1.at_, x85.1.seed⟩ : Gl00Src)) g (St.vis hS1 (fun i hi => .inl hi)) (vis_get ho2 (.inr (rfl))) fo0 lo7 h97 hx0) (fun v n1 H1 H2 hn0 hp0 hle0 hnew0 hk0 hd0 => ?_)
 obtain ⟨F1, a0, cap0, hX1, hS2, ho3, rfl, h0⟩ := hp0
 have hS3 : St lo n1 H1 _ := sA hS2 hnew0 hle0
 have ho4 := (hk0 _ (by have := lt2; omega) (oE2 (nF fo1) (by omega))).trans ho1
 have fo2 := fA hX1 lt1 fo0
 have fo3 := fA hX1 lt2 fo1
 have hE2 := (hE1.up (n' := n86) (by omega)).trans hX1
 have ho6 := hle0 _ _ ho3
 have hlon1 := hS3.lo
 have lt3 := hS3.lt ho6
 have lt4 := hS3.lt ho4
 refine mN rfl ?_
 refine GL.lit (cs := [str ([115, 47, 97, 47, 98, 47, 103] : List UInt8), str ([112] : List UInt8), str ([36, 100] : List UInt8), str ([49, 33, 71, 59, 104, 59, 36, 33, 100] : List UInt8), str ([115, 47] : List UInt8), str ([119, 32, 120] : List UInt8), str ([121, 47, 97, 98, 47, 98, 97, 47] : List UInt8), str ([58, 97, 10, 98, 32, 97] : List UInt8), str ([105, 32, 116, 111, 112] : List UInt8)]) (xs := ([([115, 47, 97, 47, 98, 47, 103] : List UInt8), ([112] : List UInt8), ([36, 100] : List UInt8), ([49, 33, 71, 59, 104, 59, 36, 33, 100] : List UInt8), ([115, 47] : List UInt8), ([119, 32, 120] : List UInt8), ([121, 47, 97, 98, 47, 98, 97, 47] : List UInt8), ([58, 97, 10, 98, 32, 97] : List UInt8), ([105, 32, 116, 111, 112] : List UInt8)] : List Str)) hS3 .nil rfl rfl rfl U115 info9 rfl rfl rfl (by decide) (by decide) rfl rfl rfl rfl rfl (RA.cons (α := Str) (cs := [str ([115, 47, 97, 47, 98, 47, 103] : List UInt8)]) (a := (([115, 47, 97, 47, 98, 47, 103] : List UInt8) : Str)) rfl (RA.cons (α := Str) (cs := [str ([112] : List UInt8)]) (a := (([112] : List UInt8) : Str)) rfl (RA.cons (α := Str) (cs := [str ([36, 100] : List UInt8)]) (a := (([36, 100] : List UInt8) : Str)) rfl (RA.cons (α := Str) (cs := [str ([49, 33, 71, 59, 104, 59, 36, 33, 100] : List UInt8)]) (a := (([49, 33, 71, 59, 104, 59, 36, 33, 100] : List UInt8) : Str)) rfl (RA.cons (α := Str) (cs := [str ([115, 47] : List UInt8)]) (a := (([115, 47] : List UInt8) : Str)) rfl (RA.cons (α := Str) (cs := [str ([119, 32, 120] : List UInt8)]) (a := (([119, 32, 120] : List UInt8) : Str)) rfl (RA.cons (α := Str) (cs := [str ([121, 47, 97, 98, 47, 98, 97, 47] : List UInt8)]) (a := (([121, 47, 97, 98, 47, 98, 97, 47] : List UInt8) : Str)) rfl (RA.cons (α := Str) (cs := [str ([58, 97, 10, 98, 32, 97] : List UInt8)]) (a := (([58, 97, 10, 98, 32, 97] : List UInt8) : Str)) rfl (RA.cons (α := Str) (cs := [str ([105, 32, 116, 111, 112] : List UInt8)]) (a := (([105, 32, 116, 111, 112] : List UInt8) : Str)) rfl RA.nil))))))))) rfl (fun H3 hS4 hO0 hk1 => ?_)
 have ho7 := oA hk1 ho6 lt3
 have ho8 := oA hk1 ho4 lt4
 have h1 := OW.lower (lo' := n0) hO0 (by omega)
 have hlon2 := hS4.lo
 obtain ⟨F2, hS5, hle1, h2, hf0⟩ := OW.freeze h1 hS4
 have fo4 := (hf0 _ (Ap.fresh0 (OW.lb hO0) (by have := lt3; omega))).trans fo2
 have fo5 := (hf0 _ (Ap.fresh0 (OW.lb hO0) (by have := lt4; omega))).trans fo3
 have hE3 : Ext n0 F0 (n1 + 1) F2 := ⟨Nat.le_trans hE2.le (by omega), hE2.sub.trans hle1, fun i hi => (hf0 i (fun hj => by have := OW.id_lt h1 hj; omega)).trans (hE2.eq i hi)⟩
 obtain ⟨x2, hx1, hr⟩ := bnd_some hr
 refine GL.callIO g .nil (fun i => (F2 i).isSome = true ∨ i = p0) rfl rfl rfl rfl rfl rfl Try.func102 rfl rfl (Nat.le_refl _) hS5.lo (f_spec_l00Src_pick_k (x1 := (⟨x0.1.code, x0.1.at_, x0.1.seed⟩ : Gl00Src)) g (St.vis hS5 (fun i hi => .inl hi)) (vis_get ho7 (.inr (rfl))) fo4 lo7 (h0.mono hle1) h2 hx1) (fun v n2 H4 H5 hn1 hp1 hle2 hnew1 hk2 hd1 => ?_)
 obtain ⟨F3, a1, cap1, hX2, hS6, ho9, rfl, h3⟩ := hp1
 have hS7 : St lo n2 H4 _ := sA hS6 hnew1 hle2
 have ho11 := (hk2 _ (by have := lt4; omega) (oE2 (nF fo5) (by omega))).trans ho8
 have fo7 := fA hX2 lt3 fo4
 have fo8 := fA hX2 lt4 fo5
 have hE4 := (hE3.up (n' := (n1 + 1)) (by omega)).trans hX2
 have ho12 := hle2 _ _ ho9
 have hlon3 := hS7.lo
 have lt5 := hS7.lt ho12
 have lt6 := hS7.lt ho11
 refine WL.buildL .nil (cells := [iv ((1 : Int) + x15.2), iv ((1 : Int) + x41.2), str x85.2, iv x0.2, str x2.2, str ([] : List UInt8), .bool false, .bool false]) rfl rfl rfl U100 info100 rfl rfl rfl (by simp only [List.mapM_cons, List.mapM_nil, info3, info3, info9, info3, info9, info9, info4, info4]; rfl) rfl (by first | rfl | ((conv => lhs; simp [splice, fillL, cells_int, cells_bool, cells_string, cells_str, cells_slice, cells_ptr, cells_map, cells_func, cells_nilFunc, cells_nilIface, cells_iface, cells_agg, cells_u8]) <;> rfl)) ?_
 refine GL.alloc hS7 .nil (zc := [iv 0, iv 0, str ([] : List UInt8), iv 0, str ([] : List UInt8), str ([] : List UInt8), .bool false, .bool false]) rfl rfl rfl info100 rfl rfl rfl (fun H6 hS8 ho13 hk3 => ?_)
 have fo9 := hS7.fnone (Nat.le_refl _)
 have ho15 := oA hk3 ho12 lt5
 have ho16 := oA hk3 ho11 lt6
 have hlon4 := hS8.lo
 have lt7 : n2 < (n2 + 1) := by omega
 refine GL.store hS8 .nil (vc := [iv ((1 : Int) + x15.2), iv ((1 : Int) + x41.2), str x85.2, iv x0.2, str x2.2, str ([] : List UInt8), .bool false, .bool false]) (c' := [iv ((1 : Int) + x15.2), iv ((1 : Int) + x41.2), str x85.2, iv x0.2, str x2.2, str ([] : List UInt8), .bool false, .bool false]) rfl rfl rfl info100 rfl rfl rfl rfl ho13 fo9 (bl rfl) (by omega) bxP rfl (fun H7 hS10 ho17 hk4 => ?_)
 have ho18 := (hk4 _ (by omega)).trans ho15
 have ho19 := (hk4 _ (by omega)).trans ho16
 refine wN (eT (wS (wS (wR (fN rfl U100 rfl info3 rfl (lN rfl U3 rfl ho17 rfl (bN rfl rfl (wN (eT ?_)))))))))
 refine W.cut (fun fr n H => ∃ (x3 : Str) (a3 : OA) (cap2 : Nat) (xs0 : (List UInt8)) (x4 : Int) (x5 : Int) (F : Heap), fr = [(0, pt p0 0), (2, pt n0 0), (3, pt n2 0)] ∧ St lo n H F ∧ Ext n0 F0 n F ∧ H n0 = some (.row 1 [iv 0, iv 0, str ([] : List UInt8), iv 0, str ([] : List UInt8), str ([] : List UInt8), .bool false, .bool false]) ∧ F n0 = none ∧ H n2 = some (.row 1 [iv ((1 : Int) + x15.2), iv ((1 : Int) + x41.2), str x85.2, iv x0.2, str x2.2, str x3, .bool false, .bool false]) ∧ F n2 = none ∧ H p0 = some (.row ez0 [.slice a3 xs0.length cap2, iv x4, iv x5]) ∧ F p0 = none ∧ SR F (.slice a3 xs0.length cap2) xs0 ∧ f_spec_l00Src_job_J0 x15 x41 x85 x0 x2 x3 xs0 x4 x5 = some res) ?_ ?_
 {
 refine W.condD rfl (fun hc0 => ?_) (fun hc0 => ?_)
 {
 replace hr := ite_pos hr hc0
 refine wR (mN rfl ?_)
 refine GL.lit (cs := [str ([] : List UInt8), str ([97, 10, 98, 10] : List UInt8), str ([97, 98, 97, 98, 10] : List UInt8)]) (xs := ([([] : List UInt8), ([97, 10, 98, 10] : List UInt8), ([97, 98, 97, 98, 10] : List UInt8)] : List Str)) hS10 .nil rfl rfl rfl U115 info9 rfl rfl rfl (by decide) (by decide) rfl rfl rfl rfl rfl (RA.cons (α := Str) (cs := [str ([] : List UInt8)]) (a := (([] : List UInt8) : Str)) rfl (RA.cons (α := Str) (cs := [str ([97, 10, 98, 10] : List UInt8)]) (a := (([97, 10, 98, 10] : List UInt8) : Str)) rfl (RA.cons (α := Str) (cs := [str ([97, 98, 97, 98, 10] : List UInt8)]) (a := (([97, 98, 97, 98, 10] : List UInt8) : Str)) rfl RA.nil))) rfl (fun H9 hS11 hO1 hk5 => ?_)
 have ho20 := oA hk5 ho18 lt5
 have ho21 := oA hk5 ho19 lt6
 have ho22 := oA hk5 ho17 lt7
 have h5 := OW.lower (lo' := n0) hO1 (by omega)
 have hlon5 := hS11.lo
 obtain ⟨F4, hS12, hle3, h6, hf1⟩ := OW.freeze h5 hS11
 have fo10 := (hf1 _ (Ap.fresh0 (OW.lb hO1) (by have := lt5; omega))).trans fo7
 have fo11 := (hf1 _ (Ap.fresh0 (OW.lb hO1) (by have := lt6; omega))).trans fo8
 have fo13 := (hf1 _ (Ap.fresh0 (OW.lb hO1) (by have := lt7; omega))).trans fo9
 have hE5 : Ext n0 F0 ((n2 + 1) + 1) F4 := ⟨Nat.le_trans hE4.le (by omega), hE4.sub.trans hle3, fun i hi => (hf1 i (fun hj => by have := OW.id_lt h5 hj; omega)).trans (hE4.eq i hi)⟩
 obtain ⟨x6, hx2, hr⟩ := bnd_some hr
 refine GL.callIO g .nil (fun i => (F4 i).isSome = true ∨ i = p0) rfl rfl rfl rfl rfl rfl Try.func102 rfl rfl (Nat.le_refl _) hS12.lo (f_spec_l00Src_pick_k (x1 := (⟨x2.1.code, x2.1.at_, x2.1.seed⟩ : Gl00Src)) g (St.vis hS12 (fun i hi => .inl hi)) (vis_get ho20 (.inr (rfl))) fo10 lo7 (h3.mono hle3) h6 hx2) (fun v n3 H10 H11 hn2 hp2 hle4 hnew2 hk6 hd2 => ?_)
 obtain ⟨F5, a4, cap4, hX3, hS13, ho23, rfl, h7⟩ := hp2
 have hS14 : St lo n3 H10 _ := sA hS13 hnew2 hle4
 have ho24 := (hk6 _ (by have := lt6; omega) (oE2 (nF fo11) (by omega))).trans ho21
 have ho25 := (hk6 _ (by have := lt7; omega) (oE2 (nF fo13) (by omega))).trans ho22
 have fo14 := fA hX3 lt5 fo10
 have fo15 := fA hX3 lt6 fo11
 have fo16 := fA hX3 lt7 fo13
 have hE6 := (hE5.up (n' := ((n2 + 1) + 1)) (by omega)).trans hX3
 have ho26 := hle4 _ _ ho23
 have hlon6 := hS14.lo
 have lt8 := hS14.lt ho26
 have lt9 := hS14.lt ho24
 have lt10 := hS14.lt ho25
 refine fN rfl U100 rfl info9 rfl ?_
 refine GL.store hS14 .nil (vc := [str x6.2]) (c' := [iv ((1 : Int) + x15.2), iv ((1 : Int) + x41.2), str x85.2, iv x0.2, str x2.2, str x6.2, .bool false, .bool false]) rfl rfl rfl info9 rfl rfl rfl rfl ho25 fo16 (bl rfl) (by omega) (one1 rfl) rfl (fun H12 hS15 ho27 hk7 => ?_)
 have ho28 := (hk7 _ (by omega)).trans ho26
 have ho29 := (hk7 _ (by omega)).trans ho24
 refine wN (eT ?_)
 exact ⟨[(0, pt p0 0), (2, pt n0 0), (3, pt n2 0)], (fl3), x6.2, a4, cap4, x6.1.code, x6.1.at_, x6.1.seed, F5, rfl, hS15, hE6, ho29, fo15, ho27, fo16, ho28, fo14, h7, hr⟩
 }
 {
 replace hr := ite_neg hr hc0
 refine wK (eT ?_)
 exact ⟨[(0, pt p0 0), (2, pt n0 0), (3, pt n2 0)], (fl3), ([] : List UInt8), a1, cap1, x2.1.code, x2.1.at_, x2.1.seed, F3, rfl, hS10, (hE4.up (by omega)), ho19, fo8, ho17, fo9, ho18, fo7, h3, hr⟩
 }
 }
 {
 intro _ n4 H13 hI
 obtain ⟨x3, a3, cap2, xs0, x4, x5, F6, rfl, hS16, hE7, ho30, fo17, ho32, fo18, ho34, fo19, h8, hr⟩ := hI
 have lt11 := hS16.lt ho30
 have lt12 := hS16.lt ho32
 have lt14 := hS16.lt ho34
 have hlen0 := hE7.le
 have hlon7 := hS16.lo
 unfold f_spec_l00Src_job_J0 at hr
 refine wS (wR (mN rfl ?_))
 obtain ⟨x7, hx3, hr⟩ := bnd_some hr
 refine GL.callIO g .nil (fun i => (F6 i).isSome = true ∨ i = p0) rfl rfl rfl rfl rfl rfl Try.func66 rfl rfl (Nat.le_refl _) hS16.lo (f_spec_l00Src_chance_k (x1 := (⟨xs0, x4, x5⟩ : Gl00Src)) g (St.vis hS16 (fun i hi => .inl hi)) (vis_get ho34 (.inr (rfl))) fo19 lo7 h8 hx3) (fun v n5 H14 H15 hn3 hp3 hle5 hnew3 hk8 hd3 => ?_)
 obtain ⟨F7, a5, cap5, hX4, hS17, ho35, rfl, h9⟩ := hp3
 have hS18 : St lo n5 H14 _ := sA hS17 hnew3 hle5
 have ho36 := (hk8 _ (by have := lt11; omega) (oE2 (nF fo17) (by omega))).trans ho30
 have ho38 := (hk8 _ (by have := lt12; omega) (oE2 (nF fo18) (by omega))).trans ho32
 have fo20 := fA hX4 lt11 fo17
 have fo21 := fA hX4 lt12 fo18
 have fo22 := fA hX4 lt14 fo19
 have hE8 := (hE7.up (n' := n4) (by omega)).trans hX4
 have ho39 := hle5 _ _ ho35
 have hlon8 := hS18.lo
 have lt15 := hS18.lt ho36
 have lt16 := hS18.lt ho38
 have lt17 := hS18.lt ho39
 refine fN rfl U100 rfl info4 rfl ?_
 refine GL.store hS18 .nil (vc := [.bool x7.2]) (c' := [iv ((1 : Int) + x15.2), iv ((1 : Int) + x41.2), str x85.2, iv x0.2, str x2.2, str x3, .bool x7.2, .bool false]) rfl rfl rfl info4 rfl rfl rfl rfl ho38 fo21 (bl rfl) (by omega) (one1 rfl) rfl (fun H16 hS19 ho40 hk9 => ?_)
 have ho41 := (hk9 _ (by omega)).trans ho36
 have ho42 := (hk9 _ (by omega)).trans ho39
 refine wN (eT (wS (wR (mN rfl ?_))))
 obtain ⟨x8, hx4, hr⟩ := bnd_some hr
 refine GL.callIO g .nil (fun i => (F7 i).isSome = true ∨ i = p0) rfl rfl rfl rfl rfl rfl Try.func66 rfl rfl (Nat.le_refl _) hS19.lo (f_spec_l00Src_chance_k (x1 := (⟨x7.1.code, x7.1.at_, x7.1.seed⟩ : Gl00Src)) g (St.vis hS19 (fun i hi => .inl hi)) (vis_get ho42 (.inr (rfl))) fo22 lo7 h9 hx4) (fun v n6 H19 H20 hn4 hp4 hle6 hnew4 hk10 hd4 => ?_)
 obtain ⟨F8, a6, cap6, hX5, hS20, ho43, rfl, h10⟩ := hp4
 have hS21 : St lo n6 H19 _ := sA hS20 hnew4 hle6
 have ho44 := (hk10 _ (by have := lt15; omega) (oE2 (nF fo20) (by omega))).trans ho41
 have ho45 := (hk10 _ (by have := lt16; omega) (oE2 (nF fo21) (by omega))).trans ho40
 have fo23 := fA hX5 lt15 fo20
 have fo24 := fA hX5 lt16 fo21
 have hE9 := (hE8.up (n' := n5) (by omega)).trans hX5
 have ho46 := hle6 _ _ ho43
 have hlon9 := hS21.lo
 have lt18 := hS21.lt ho44
 have lt19 := hS21.lt ho45
 have lt20 := hS21.lt ho46
 refine fN rfl U100 rfl info4 rfl ?_
 refine GL.store hS21 .nil (vc := [.bool x8.2]) (c' := [iv ((1 : Int) + x15.2), iv ((1 : Int) + x41.2), str x85.2, iv x0.2, str x2.2, str x3, .bool x7.2, .bool x8.2]) rfl rfl rfl info4 rfl rfl rfl rfl ho45 fo24 (bl rfl) (by omega) (one1 rfl) rfl (fun H21 hS22 ho47 hk12 => ?_)
 have ho48 := (hk12 _ (by omega)).trans ho44
 have ho49 := (hk12 _ (by omega)).trans ho46
 refine wN (eT (wS (wR (WL.loadN .nil (l' := [iv ((1 : Int) + x15.2), iv ((1 : Int) + x41.2), str x85.2, iv x0.2, str x2.2, str x3, .bool x7.2, .bool x8.2]) rfl rfl rfl U100 rfl info100 rfl ho47 rfl rfl ?_))))
 refine GL.store hS22 .nil (vc := [iv ((1 : Int) + x15.2), iv ((1 : Int) + x41.2), str x85.2, iv x0.2, str x2.2, str x3, .bool x7.2, .bool x8.2]) (c' := [iv ((1 : Int) + x15.2), iv ((1 : Int) + x41.2), str x85.2, iv x0.2, str x2.2, str x3, .bool x7.2, .bool x8.2]) rfl rfl rfl info100 rfl rfl rfl rfl ho48 fo23 (bl rfl) (by omega) bxP rfl (fun H22 hS23 ho50 hk13 => ?_)
 have ho51 := (hk13 _ (by omega)).trans ho49
 refine wN (eT (W.ret ?_))
 obtain rfl := Option.some.inj hr
 exact ⟨.inr rfl, _, (.cons (.cellN (l := [iv ((1 : Int) + x15.2), iv ((1 : Int) + x41.2), str x85.2, iv x0.2, str x2.2, str x3, .bool x7.2, .bool x8.2]) rfl U100 rfl info100 ho50 rfl rfl) .nil), ⟨F8, a6, cap6, (hE9.up (by omega)), hS23, ho51, rfl, h10⟩⟩
 }
theorem f_spec_l01Put_k {Δ : Prims} (g : Env Try.prog Δ) {lo n0 : Nat} {H0 F0 : Heap} (hS : St lo n0 H0 F0) {x1 : Int} {res : ((List UInt8))} (hr : f_spec_l01Put x1 = some res) :
    C Try.prog Δ n0 99 [iv x1] n0 H0 (fun v n H => ∃ (ra1 : OA) (rcap2 : Nat), St n0 n H F0 ∧ v = .slice ra1 res.length rcap2 ∧ Ow n0 n H F0 ra1 rcap2 res) := by
 refine C.body Try.func99 rfl rfl ?_
 unfold f_spec_l01Put at hr
 have hS0 : St n0 n0 H0 F0 := hS.low (Nat.le_refl _)
 have hE0 := Ext.refl n0 F0
 have hlo0 := hS0.lo
 refine wS (wR (aN rfl (wN (eT (wS (wR ?_))))))
 refine GL.lit (cs := []) (xs := ([] : List UInt8)) hS0 .nil rfl rfl rfl U22 info5 rfl rfl rfl (by decide) (by decide) rfl rfl rfl rfl rfl RA.nil rfl (fun H2 hS3 hO4 hk5 => ?_)
 have h6 := OW.lower (lo' := n0) hO4 (by omega)
 have hlon01 := hS3.lo
 refine aN rfl (wN (eT (wS (W.block ?_))))
 refine W.loopF (fun k0 fr n H => ∃ (x0 : Int) (a0 : OA) (cap0 : Nat) (xs0 : (List UInt8)) (F : Heap), fr = [(0, iv x0), (3, .slice a0 xs0.length cap0)] ∧ St n0 n H F ∧ Ext n0 F0 n F ∧ Ow n0 n H F a0 cap0 xs0 ∧ f_spec_l01Put_L0 k0 x0 xs0 = some res) BIG (fr0 := [(0, iv x1), (3, .slice (some ⟨n0, 0, none⟩) ([] : List UInt8).length 0)]) (fl2) ?_ ?_ ?_
 {
 exact ⟨x1, (some ⟨n0, 0, none⟩), 0, ([] : List UInt8), F0, rfl, hS3, (hE0.up (by omega)), h6, hr⟩
 }
 {
 intro fr n H hI
 obtain ⟨x0, a0, cap0, xs0, F1, hfr, hS1, hE1, h0, hr⟩ := hI
 rw [f_spec_l01Put_L0] at hr
 cases hr
 }
 {
 intro k0 _ n1 H1 hI
 obtain ⟨x0, a0, cap0, xs0, F1, rfl, hS1, hE1, h0, hr⟩ := hI
 have hlen0 := hE1.le
 have hlon0 := hS1.lo
 rw [f_spec_l01Put_L0] at hr
 refine wS (wS (wR (mN rfl (bN rfl rfl (wN (eT ?_))))))
 refine W.condD rfl (fun hc0 => ?_) (fun hc0 => ?_)
 {
 replace hr := ite_pos hr hc0
 refine wK (eT (W.block (wS (wR (mN rfl (mN rfl ?_))))))
 obtain ⟨hc1, hr⟩ := chk_some hr
 refine WL.remI .nil rfl rfl rfl rfl rfl hc1.1 hc1.2 (WL.convB .nil rfl rfl rfl U3 U5 rfl ?_)
 refine GL.u8or .nil (byteOf (x0 % 128)) (128 : UInt8) rfl rfl rfl rfl rfl ?_
 refine GL.lit (cs := [u8 ((byteOf (x0 % 128)) ||| (128 : UInt8))]) (xs := ([((byteOf (x0 % 128)) ||| (128 : UInt8))] : List UInt8)) hS1 .nil rfl rfl rfl U22 info5 rfl rfl rfl (by decide) (by decide) rfl rfl rfl rfl rfl (RA.cons (cs := [u8 ((byteOf (x0 % 128)) ||| (128 : UInt8))]) (a := (((byteOf (x0 % 128)) ||| (128 : UInt8)) : UInt8)) rfl RA.nil) rfl (fun H3 hS2 hO0 hk0 => ?_)
 have h1 := kA (n' := (n1 + 1)) h0 hk0
 have h2 := OW.lower (lo' := n0) hO0 (by omega)
 have hlon1 := hS2.lo
 obtain ⟨hc2, hr⟩ := chk_some hr
 refine GL.append (α := UInt8) hS2 .nil rfl rfl rfl U22 U22 rfl info5 rfl rfl rfl (by decide) rfl rfl h1 (by omega) (by omega) (OW.src h2) hc2 (fun a1 cap1 n2 H4 hS4 hn0 hO1 hk1 hid0 => ?_)
 have hlon2 := hS4.lo
 refine aN rfl (wN (eT (wR (mN rfl ?_))))
 obtain ⟨hc3, hr⟩ := chk_some hr
 refine WL.quoI .nil rfl rfl rfl rfl rfl hc3.1 hc3.2.1 hc3.2.2 (aN rfl (wN (eB (eT ?_))))
 exact ⟨[(0, iv (x0 / 128)), (3, .slice a1 (xs0 ++ ([((byteOf (x0 % 128)) ||| (128 : UInt8))] : List UInt8)).length cap1)], (fl2), (x0 / 128), a1, cap1, (xs0 ++ ([((byteOf (x0 % 128)) ||| (128 : UInt8))] : List UInt8)), F1, rfl, hS4, (hE1.up (by omega)), hO1, hr⟩
 }
 {
 replace hr := ite_neg hr hc0
 refine W.exit (eX (eX (eH (eT (wS (wR (mN rfl (mN rfl (WL.convB .nil rfl rfl rfl U3 U5 rfl ?_)))))))))
 refine GL.lit (cs := [u8 (byteOf x0)]) (xs := ([(byteOf x0)] : List UInt8)) hS1 .nil rfl rfl rfl U22 info5 rfl rfl rfl (by decide) (by decide) rfl rfl rfl rfl rfl (RA.cons (cs := [u8 (byteOf x0)]) (a := ((byteOf x0) : UInt8)) rfl RA.nil) rfl (fun H5 hS5 hO2 hk2 => ?_)
 have h3 := kA (n' := (n1 + 1)) h0 hk2
 have h4 := OW.lower (lo' := n0) hO2 (by omega)
 have hlon1 := hS5.lo
 obtain ⟨hc4, hr⟩ := chk_some hr
 refine GL.append (α := UInt8) hS5 .nil rfl rfl rfl U22 U22 rfl info5 rfl rfl rfl (by decide) rfl rfl h3 (by omega) (by omega) (OW.src h4) hc4 (fun a2 cap2 n3 H6 hS6 hn1 hO3 hk3 hid1 => ?_)
 have hlon3 := hS6.lo
 refine aN rfl (wN (eT (W.ret ?_)))
 obtain rfl := Option.some.inj hr
 exact ⟨.inr rfl, _, (.cons (.tmp rfl) .nil), ⟨a2, cap2, (Ext.st hE1 hS6), rfl, (OW.downFl hE1.sub hO3)⟩⟩
 }
 }
theorem f_spec_l09Text_k {Δ : Prims} (g : Env Try.prog Δ) {lo n0 : Nat} {H0 F0 : Heap} (hS : St lo n0 H0 F0) {x1 : Str} {res : ((List UInt8))} (hr : f_spec_l09Text x1 = some res) :
    C Try.prog Δ n0 100 [str x1] n0 H0 (fun v n H => ∃ (ra1 : OA) (rcap2 : Nat), St n0 n H F0 ∧ v = .slice ra1 res.length rcap2 ∧ Ow n0 n H F0 ra1 rcap2 res) := by
 refine C.body Try.func100 rfl rfl ?_
 unfold f_spec_l09Text at hr
 have hS0 : St n0 n0 H0 F0 := hS.low (Nat.le_refl _)
 have hE0 := Ext.refl n0 F0
 have hlo0 := hS0.lo
 refine wS (wR (aN rfl (wN (eT (wS (wR (mN rfl ?_)))))))
 refine GL.lenStr .nil rfl rfl rfl U9 rfl ?_
 obtain ⟨x2, hx2, hr⟩ := bnd_some hr
 refine GL.callP g.good .nil rfl rfl rfl rfl rfl rfl Try.func99 rfl rfl hS0.lo (f_spec_l01Put_k  g hS0 hx2) (fun v n3 H4 hn5 hk6 hp7 => ?_)
 obtain ⟨a8, cap9, hS11, rfl, h10⟩ := hp7
 have hS12 : St n0 n3 H4 F0 := ⟨by have := hS0.lo; omega, hS11.hb, hS11.fh⟩
 have hlon3 := hS12.lo
 have h13 := OW.lower (lo' := n0) h10 (by omega)
 refine mN rfl ?_
 obtain ⟨hc15, hr⟩ := chk_some hr
 refine GL.appendStr (ys := x1) hS12 .nil rfl rfl rfl U22 U9 rfl info5 rfl rfl rfl (by decide) rfl rfl h13 (by omega) (by omega) hc15 (fun a16 cap17 n18 H19 hS20 hn21 hO22 hk23 hid24 => ?_)
 have hlon18 := hS20.lo
 refine aN rfl (wN (eT (W.ret ?_)))
 obtain rfl := Option.some.inj hr
 exact ⟨.inr rfl, _, (.cons (.tmp rfl) .nil), ⟨a16, cap17, (Ext.st hE0 hS20), rfl, (OW.downFl hE0.sub hO22)⟩⟩
theorem f_spec_l09Flag_k {Δ : Prims} (g : Env Try.prog Δ) {lo n0 : Nat} {H0 F0 : Heap} (hS : St lo n0 H0 F0) {x1 : Bool} {res : (Int)} (hr : f_spec_l09Flag x1 = some res) :
    C Try.prog Δ n0 101 [.bool x1] n0 H0 (fun v n H => St n0 n H F0 ∧ v = iv res) := by
 refine C.body Try.func101 rfl rfl ?_
 unfold f_spec_l09Flag at hr
 have hS0 : St n0 n0 H0 F0 := hS.low (Nat.le_refl _)
 have hE0 := Ext.refl n0 F0
 have hlo0 := hS0.lo
 refine wS (wR (aN rfl (wN (eT (wS (wS (wR (mN rfl (wN (eT ?_))))))))))
 refine W.cond rfl (fun hc2 => ?_) (fun hc2 => ?_)
 {
 replace hr := iteB_pos hr hc2
 refine wS (wR (aN rfl (wN (eT (W.ret (eR ?_))))))
 obtain rfl := Option.some.inj hr
 exact ⟨.inr rfl, _, (.cons (.tmp rfl) .nil), ⟨(Ext.st hE0 hS0), rfl⟩⟩
 }
 {
 replace hr := iteB_neg hr hc2
 refine wK (eT (wS (wR (aN rfl (wN (eT (W.ret ?_)))))))
 obtain rfl := Option.some.inj hr
 exact ⟨.inr rfl, _, (.cons (.tmp rfl) .nil), ⟨(Ext.st hE0 hS0), rfl⟩⟩
 }
theorem f_spec_l09Bytes_k {Δ : Prims} (g : Env Try.prog Δ) {lo n0 : Nat} {H0 F0 : Heap} (hS : St lo n0 H0 F0) {x1 : GJob} {res : ((List UInt8))} (hr : f_spec_l09Bytes x1 = some res) :
    C Try.prog Δ n0 67 [.agg [iv x1.Client, iv x1.Seq, str x1.File, iv x1.Version, str x1.Script, str x1.Text, .bool x1.Ere, .bool x1.Quiet].toArray] n0 H0 (fun v n H => ∃ (ra1 : OA) (rcap2 : Nat), St n0 n H F0 ∧ v = .slice ra1 res.length rcap2 ∧ Ow n0 n H F0 ra1 rcap2 res) := by
 refine C.body Try.func67 rfl rfl ?_
 unfold f_spec_l09Bytes at hr
 have hS0 : St n0 n0 H0 F0 := hS.low (Nat.le_refl _)
 have hE0 := Ext.refl n0 F0
 have hlo0 := hS0.lo
 refine wS (wR ?_)
 refine GL.box hS0 .nil (vc := [iv x1.Client, iv x1.Seq, str x1.File, iv x1.Version, str x1.Script, str x1.Text, .bool x1.Ere, .bool x1.Quiet]) rfl rfl rfl rfl rfl bxP (fun H2 hS3 ho4 hk5 => ?_)
 have hlon01 := hS3.lo
 have lt7 : n0 < (n0 + 1) := by omega
 refine aN rfl (wN (eT (wS ?_)))
 refine W.regionD [0, 1, 2, 3, 4, 5, 6, 7] [false, false, false, false, false, false, true, false] rfl rfl kr kr mP ?_
 refine fR rfl U100 rfl info3 rfl (lR rfl U3 rfl ho4 rfl ?_)
 obtain ⟨x8, hx8, hr⟩ := bnd_some hr
 refine GL.callP g.good .r rfl rfl rfl rfl rfl rfl Try.func99 rfl rfl (Nat.le_refl _) (f_spec_l01Put_k  g hS3 hx8) (fun v n9 H10 hn11 hk12 hp13 => ?_)
 obtain ⟨a14, cap15, hS17, rfl, h16⟩ := hp13
 have ho18 := oA hk12 ho4 lt7
 have hS19 : St n0 n9 H10 F0 := ⟨by have := hS3.lo; omega, hS17.hb, hS17.fh⟩
 have hlon9 := hS19.lo
 have h20 := OW.lower (lo' := n0) h16 (by omega)
 refine fR rfl U100 rfl info3 rfl (lR rfl U3 rfl ho18 rfl ?_)
 obtain ⟨x23, hx23, hr⟩ := bnd_some hr
 refine GL.callP g.good .r rfl rfl rfl rfl rfl rfl Try.func99 rfl rfl (Nat.le_refl _) (f_spec_l01Put_k  g hS19 hx23) (fun v n24 H25 hn26 hk27 hp28 => ?_)
 obtain ⟨a29, cap30, hS32, rfl, h31⟩ := hp28
 have ho33 := oA hk27 ho18 lt7
 have h34 := kA (n' := n24) h20 hk27
 have hS35 : St n0 n24 H25 F0 := ⟨by have := hS19.lo; omega, hS32.hb, hS32.fh⟩
 have hlon24 := hS35.lo
 have h36 := OW.lower (lo' := n0) h31 (by omega)
 obtain ⟨hc40, hr⟩ := chk_some hr
 refine GL.append (α := UInt8) hS35 .w rfl rfl rfl U22 U22 rfl info5 rfl rfl rfl (by decide) rfl rfl h34 (by omega) (by omega) (OW.src h36) hc40 (fun a41 cap42 n43 H44 hS45 hn46 hO47 hk48 hid49 => ?_)
 have ho50 := (hk48 _ (by have := lt7; omega) (Ap.fresh0 (OW.lb h16) (by have := lt7; omega))).trans ho33
 have hlon43 := hS45.lo
 refine aR rfl (wN (eT (wS (wR (mN rfl (fN rfl U100 rfl info9 rfl (lN rfl U9 rfl ho50 rfl ?_)))))))
 obtain ⟨x55, hx55, hr⟩ := bnd_some hr
 refine GL.callP g.good .nil rfl rfl rfl rfl rfl rfl Try.func100 rfl rfl hS45.lo (f_spec_l09Text_k  g hS45 hx55) (fun v n56 H57 hn58 hk59 hp60 => ?_)
 obtain ⟨a61, cap62, hS64, rfl, h63⟩ := hp60
 have ho65 := oA hk59 ho50 lt7
 have h67 := kA (n' := n56) hO47 hk59
 have hS68 : St n0 n56 H57 F0 := ⟨by have := hS45.lo; omega, hS64.hb, hS64.fh⟩
 have hlon56 := hS68.lo
 have h69 := OW.lower (lo' := n0) h63 (by omega)
 obtain ⟨hc74, hr⟩ := chk_some hr
 refine GL.append (α := UInt8) hS68 .nil rfl rfl rfl U22 U22 rfl info5 rfl rfl rfl (by decide) rfl rfl h67 (by omega) (by omega) (OW.src h69) hc74 (fun a75 cap76 n77 H78 hS79 hn80 hO81 hk82 hid83 => ?_)
 have ho84 := (hk82 _ (by have := lt7; omega) (Ap.new0 hid49 (by have := lt7; omega) (Ap.fresh0 (OW.lb h16) (by have := lt7; omega)))).trans ho65
 have ap89 : nP (.slice a75 ((x8 ++ x23) ++ x55).length cap76) n0 := Ap.new0 hid83 (by have := lt7; omega) (Ap.new0 hid49 (by have := lt7; omega) (Ap.fresh0 (OW.lb h16) (by have := lt7; omega)))
 have hlon77 := hS79.lo
 refine aN rfl (wN (eT (wS (wR (mN rfl (fN rfl U100 rfl info3 rfl (lN rfl U3 rfl ho84 rfl ?_)))))))
 obtain ⟨x92, hx92, hr⟩ := bnd_some hr
 refine GL.callP g.good .nil rfl rfl rfl rfl rfl rfl Try.func99 rfl rfl hS79.lo (f_spec_l01Put_k  g hS79 hx92) (fun v n93 H94 hn95 hk96 hp97 => ?_)
 obtain ⟨a98, cap99, hS1, rfl, h0⟩ := hp97
 have ho0 := oA hk96 ho84 lt7
 have h1 := kA (n' := n93) hO81 hk96
 have hS2 : St n0 n93 H94 F0 := ⟨by have := hS79.lo; omega, hS1.hb, hS1.fh⟩
 have hlon93 := hS2.lo
 have h2 := OW.lower (lo' := n0) h0 (by omega)
 obtain ⟨hc0, hr⟩ := chk_some hr
 refine GL.append (α := UInt8) hS2 .nil rfl rfl rfl U22 U22 rfl info5 rfl rfl rfl (by decide) rfl rfl h1 (by omega) (by omega) (OW.src h2) hc0 (fun a0 cap0 n1 H1 hS4 hn0 hO0 hk0 hid0 => ?_)
 have ho1 := (hk0 _ (by have := lt7; omega) ap89).trans ho0
 have hlon0 := hS4.lo
 refine aN rfl (wN (eT (wS (wR (mN rfl (fN rfl U100 rfl info9 rfl (lN rfl U9 rfl ho1 rfl ?_)))))))
 obtain ⟨x0, hx0, hr⟩ := bnd_some hr
 refine GL.callP g.good .nil rfl rfl rfl rfl rfl rfl Try.func100 rfl rfl hS4.lo (f_spec_l09Text_k  g hS4 hx0) (fun v n2 H3 hn1 hk1 hp0 => ?_)
 obtain ⟨a1, cap1, hS5, rfl, h3⟩ := hp0
 have ho2 := oA hk1 ho1 lt7
 have h4 := kA (n' := n2) hO0 hk1
 have hS6 : St n0 n2 H3 F0 := ⟨by have := hS4.lo; omega, hS5.hb, hS5.fh⟩
 have hlon1 := hS6.lo
 have h5 := OW.lower (lo' := n0) h3 (by omega)
 obtain ⟨hc1, hr⟩ := chk_some hr
 refine GL.append (α := UInt8) hS6 .nil rfl rfl rfl U22 U22 rfl info5 rfl rfl rfl (by decide) rfl rfl h4 (by omega) (by omega) (OW.src h5) hc1 (fun a2 cap2 n3 H4 hS7 hn2 hO1 hk2 hid1 => ?_)
 have ho3 := (hk2 _ (by have := lt7; omega) (Ap.new0 hid0 (by have := lt7; omega) ap89)).trans ho2
 have hlon2 := hS7.lo
 refine aN rfl (wN (eT (wS (wR (mN rfl (fN rfl U100 rfl info9 rfl (lN rfl U9 rfl ho3 rfl ?_)))))))
 obtain ⟨x2, hx1, hr⟩ := bnd_some hr
 refine GL.callP g.good .nil rfl rfl rfl rfl rfl rfl Try.func100 rfl rfl hS7.lo (f_spec_l09Text_k  g hS7 hx1) (fun v n4 H5 hn3 hk3 hp1 => ?_)
 obtain ⟨a3, cap3, hS8, rfl, h6⟩ := hp1
 have ho5 := oA hk3 ho3 lt7
 have h7 := kA (n' := n4) hO1 hk3
 have hS9 : St n0 n4 H5 F0 := ⟨by have := hS7.lo; omega, hS8.hb, hS8.fh⟩
 have hlon3 := hS9.lo
 have h8 := OW.lower (lo' := n0) h6 (by omega)
 obtain ⟨hc2, hr⟩ := chk_some hr
 refine GL.append (α := UInt8) hS9 .nil rfl rfl rfl U22 U22 rfl info5 rfl rfl rfl (by decide) rfl rfl h7 (by omega) (by omega) (OW.src h8) hc2 (fun a4 cap4 n5 H6 hS10 hn4 hO2 hk4 hid2 => ?_)
 have ho6 := (hk4 _ (by have := lt7; omega) (Ap.new0 hid1 (by have := lt7; omega) (Ap.new0 hid0 (by have := lt7; omega) ap89))).trans ho5
 have hlon4 := hS10.lo
 refine aN rfl (wN (eT (wS ?_)))
 refine W.regionD [0, 1, 2, 3, 4, 5, 6, 7, 8, 9, 10, 11, 12] [false, false, false, false, false, false, false, false, false, false, false, true, false] rfl rfl kr kr mP ?_
 refine mR rfl (fR rfl U100 rfl info4 rfl (lR rfl U4 rfl ho6 rfl ?_))
 obtain ⟨x3, hx2, hr⟩ := bnd_some hr
 refine GL.callP g.good .r rfl rfl rfl rfl rfl rfl Try.func101 rfl rfl (Nat.le_refl _) (f_spec_l09Flag_k  g hS10 hx2) (fun v n6 H7 hn5 hk6 hp2 => ?_)
 obtain ⟨hS11, rfl⟩ := hp2
 have ho7 := oA hk6 ho6 lt7
 have h9 := kA (n' := n6) hO2 hk6
 have hS12 : St n0 n6 H7 F0 := ⟨by have := hS10.lo; omega, hS11.hb, hS11.fh⟩
 have hlon5 := hS12.lo
 refine fR rfl U100 rfl info4 rfl (lR rfl U4 rfl ho7 rfl ?_)
 obtain ⟨x4, hx3, hr⟩ := bnd_some hr
 refine GL.callP g.good .r rfl rfl rfl rfl rfl rfl Try.func101 rfl rfl (Nat.le_refl _) (f_spec_l09Flag_k  g hS12 hx3) (fun v n7 H8 hn6 hk7 hp3 => ?_)
 obtain ⟨hS13, rfl⟩ := hp3
 have h10 := kA (n' := n7) h9 hk7
 have hS14 : St n0 n7 H8 F0 := ⟨by have := hS12.lo; omega, hS13.hb, hS13.fh⟩
 have hlon6 := hS14.lo
 obtain ⟨hc3, hr⟩ := chk_some hr
 refine WL.mulI .r rfl rfl rfl rfl rfl hc3.1 hc3.2 ?_
 obtain ⟨hc4, hr⟩ := chk_some hr
 refine WL.addI .r rfl rfl rfl rfl rfl hc4.1 hc4.2 (WL.convB .r rfl rfl rfl U3 U5 rfl ?_)
 refine GL.lit (cs := [u8 (byteOf (x3 + ((2 : Int) * x4)))]) (xs := ([(byteOf (x3 + ((2 : Int) * x4)))] : List UInt8)) hS14 .r rfl rfl rfl U22 info5 rfl rfl rfl (by decide) (by decide) rfl rfl rfl rfl rfl (RA.cons (cs := [u8 (byteOf (x3 + ((2 : Int) * x4)))]) (a := ((byteOf (x3 + ((2 : Int) * x4))) : UInt8)) rfl RA.nil) rfl (fun H9 hS15 hO3 hk8 => ?_)
 have h11 := kA (n' := (n7 + 1)) h10 hk8
 have h12 := OW.lower (lo' := n0) hO3 (by omega)
 have hlon7 := hS15.lo
 obtain ⟨hc5, hr⟩ := chk_some hr
 refine GL.append (α := UInt8) hS15 .w rfl rfl rfl U22 U22 rfl info5 rfl rfl rfl (by decide) rfl rfl h11 (by omega) (by omega) (OW.src h12) hc5 (fun a5 cap5 n8 H11 hS16 hn7 hO4 hk9 hid3 => ?_)
 have hlon8 := hS16.lo
 refine aR rfl (wN (eT (W.ret ?_)))
 obtain rfl := Option.some.inj hr
 exact ⟨.inr rfl, _, (.cons (.tmp rfl) .nil), ⟨a5, cap5, (Ext.st hE0 hS16), rfl, (OW.downFl hE0.sub hO4)⟩⟩
theorem f_spec_l00Src_jobEvents_k {Δ : Prims} (g : Env Try.prog Δ) {lo n0 : Nat} {H0 F0 : Heap} (hS : St lo n0 H0 F0) {p0 : Nat} {x1 : Gl00Src} {ez0 : Nat} {a2 : Option Addr} {cap3 : Nat} {x8 : Int} (ho5 : H0 p0 = some (.row ez0 [.slice a2 x1.code.length cap3, iv x1.at_, iv x1.seed])) (fo6 : F0 p0 = none) (lo7 : lo ≤ p0) (h4 : SR F0 (.slice a2 x1.code.length cap3) x1.code) {res : (Gl00Src × (List GEvent))} (hr : f_spec_l00Src_jobEvents x1 x8 = some res) :
    C Try.prog Δ lo 36 [pt p0 0, iv x8] n0 H0 (fun v n H => ∃ (F : Heap) (ra1 : OA) (rcap2 : Nat) (ra4 : OA) (rcap5 : Nat), Ext n0 F0 n F ∧ St lo n H F ∧ H p0 = some (.row ez0 [.slice ra1 res.1.code.length rcap2, iv res.1.at_, iv res.1.seed]) ∧ v = .slice ra4 res.2.length rcap5 ∧ SR F (.slice ra1 res.1.code.length rcap2) res.1.code ∧ Ow n0 n H F ra4 rcap5 res.2) := by
 refine C.body Try.func36 rfl rfl ?_
 unfold f_spec_l00Src_jobEvents at hr
 have hS0 : St lo n0 H0 F0 := hS
 have hE0 := Ext.refl n0 F0
 have hlo0 := hS0.lo
 have lt0 := hS0.lt ho5
 refine wS (wR (aN rfl (wN (eT (wS (wR (mN rfl (mN rfl ?_))))))))
 obtain ⟨x9, hx9, hr⟩ := bnd_some hr
 refine GL.callIO g .nil (fun i => (F0 i).isSome = true ∨ i = p0) rfl rfl rfl rfl rfl rfl Try.func65 rfl rfl (Nat.le_refl _) hS0.lo (f_spec_l00Src_anyEvents_k (x1 := (⟨x1.code, x1.at_, x1.seed⟩ : Gl00Src)) g (St.vis hS0 (fun i hi => .inl hi)) (vis_get ho5 (.inr (rfl))) fo6 lo7 h4 hx9) (fun v n10 H11 H12 hn13 hp14 hle15 hnew16 hk17 hd18 => ?_)
 obtain ⟨F26, a19, cap20, a22, cap23, hX27, hS25, ho28, rfl, h21, h24⟩ := hp14
 have hS29 : St lo n10 H11 _ := sA hS25 hnew16 hle15
 have fo30 := fA hX27 lt0 fo6
 have hE31 := (hE0.up (n' := n0) (by omega)).trans hX27
 have ho32 := hle15 _ _ ho28
 have h34 := OW.lower (lo' := n0) (OW.le h24 hle15) (by omega)
 have ap35 : nP (.slice a22 x9.2.length cap23) p0 := fun hj => by have := (OW.id_lt h24 hj).1; have := lt0; omega
 have hlon10 := hS29.lo
 have lt36 := hS29.lt ho32
 refine aN rfl (wN (eT (wS (wS (wR (aN rfl (wN (eT (W.block ?_)))))))))
 refine W.loopF (fun k0 fr n H => ∃ (xs0 : (List GEvent)) (x0 : Int) (a0 : OA) (cap0 : Nat) (xs1 : (List UInt8)) (x2 : Int) (x3 : Int) (F : Heap), fr = [(0, pt p0 0), (5, .slice a22 x9.2.length cap23), (6, iv x0)] ∧ St lo n H F ∧ Ext n0 F0 n F ∧ H p0 = some (.row ez0 [.slice a0 xs1.length cap0, iv x2, iv x3]) ∧ F p0 = none ∧ OW n0 n H F (.slice a22 x9.2.length cap23) xs0 ∧ x9.2.length = xs0.length ∧ SR F (.slice a0 xs1.length cap0) xs1 ∧ nP (.slice a22 x9.2.length cap23) p0 ∧ f_spec_l00Src_jobEvents_L0 x9 k0 xs0 x0 xs1 x2 x3 = some res) BIG (fr0 := [(0, pt p0 0), (5, .slice a22 x9.2.length cap23), (6, iv 0)]) (fl3) ?_ ?_ ?_
 {
 exact ⟨x9.2, 0, a19, cap20, x9.1.code, x9.1.at_, x9.1.seed, F26, rfl, hS29, hE31, ho32, fo30, h34, rfl, h21, ap35, hr⟩
 }
 {
 intro fr n H hI
 obtain ⟨xs0, x0, a0, cap0, xs1, x2, x3, F1, hfr, hS1, hE1, ho0, fo0, h0, hl0, h1, ap0, hr⟩ := hI
 rw [f_spec_l00Src_jobEvents_L0] at hr
 cases hr
 }
 {
 intro k0 _ n1 H1 hI
 obtain ⟨xs0, x0, a0, cap0, xs1, x2, x3, F1, rfl, hS1, hE1, ho0, fo0, h0, hl0, h1, ap0, hr⟩ := hI
 have lt1 := hS1.lt ho0
 have hlen0 := hE1.le
 have hlon0 := hS1.lo
 rw [f_spec_l00Src_jobEvents_L0] at hr
 refine wS (wS (wR (mN rfl (mN rfl (WL.len .nil rfl rfl rfl U25 rfl (bN rfl rfl (wN (eT ?_))))))))
 refine W.condD rfl (fun hc0 => ?_) (fun hc0 => ?_)
 {
 replace hr := ite_pos hr hc0
 refine wK (eT (wS ?_))
 refine W.cut (fun fr n H => ∃ (xs2 : (List GEvent)) (a1 : OA) (cap1 : Nat) (xs3 : (List UInt8)) (x4 : Int) (x5 : Int) (F : Heap), fr = [(0, pt p0 0), (5, .slice a22 x9.2.length cap23), (6, iv x0)] ∧ St lo n H F ∧ Ext n0 F0 n F ∧ H p0 = some (.row ez0 [.slice a1 xs3.length cap1, iv x4, iv x5]) ∧ F p0 = none ∧ OW n0 n H F (.slice a22 x9.2.length cap23) xs2 ∧ x9.2.length = xs2.length ∧ SR F (.slice a1 xs3.length cap1) xs3 ∧ nP (.slice a22 x9.2.length cap23) p0 ∧ f_spec_l00Src_jobEvents_J1 x0 (f_spec_l00Src_jobEvents_L0 x9 k0) xs2 xs3 x4 x5 = some res) ?_ ?_
 {
 refine W.block (wS ?_)
 refine W.cut (fun fr n H => ∃ (x6 : Bool) (a3 : OA) (cap2 : Nat) (xs4 : (List UInt8)) (x7 : Int) (x10 : Int) (F : Heap), fr = [(0, pt p0 0), (5, .slice a22 x9.2.length cap23), (6, iv x0), (26, .bool x6)] ∧ St lo n H F ∧ Ext n0 F0 n F ∧ H p0 = some (.row ez0 [.slice a3 xs4.length cap2, iv x7, iv x10]) ∧ F p0 = none ∧ OW n0 n H F (.slice a22 x9.2.length cap23) xs0 ∧ SR F (.slice a3 xs4.length cap2) xs4 ∧ nP (.slice a22 x9.2.length cap23) p0 ∧ f_spec_l00Src_jobEvents_J2 xs0 x0 (f_spec_l00Src_jobEvents_L0 x9 k0) x6 xs4 x7 x10 = some res) ?_ ?_
 {
 refine wR (mN rfl (mN rfl ?_))
 obtain ⟨x11, hx0, hr⟩ := bnd_some hr
 refine GL.indexO .nil rfl rfl rfl U25 info24 rfl rfl h0 rfl hx0 (fun b0 kp0 c0 ecs0 hid0 hrow0 hwin0 hR0 hup0 => ?_)
 obtain ⟨a4, cap4, rfl, h2⟩ := GEvent.ofR hR0
 refine fN rfl U24 rfl info3 rfl (lN rfl U3 rfl hrow0 ((win_get0 hwin0 (show (0 : Nat) < 3 by decide)).trans rfl) (bN rfl rfl (mN rfl ?_)))
 refine WL.guardD rfl rfl rfl (fun hg0 => ?_) (fun hg0 => ?_)
 {
 replace hr := ite_pos hr hg0
 refine mN rfl ?_
 obtain ⟨x12, hx1, hr⟩ := bnd_some hr
 refine GL.callIO g .nil (fun i => (F1 i).isSome = true ∨ i = p0) rfl rfl rfl rfl rfl rfl Try.func66 rfl rfl (Nat.le_refl _) hS1.lo (f_spec_l00Src_chance_k (x1 := (⟨xs1, x2, x3⟩ : Gl00Src)) g (St.vis hS1 (fun i hi => .inl hi)) (vis_get ho0 (.inr (rfl))) fo0 lo7 h1 hx1) (fun v n2 H2 H3 hn0 hp0 hle0 hnew0 hk0 hd0 => ?_)
 obtain ⟨F2, a5, cap5, hX0, hS2, ho1, rfl, h3⟩ := hp0
 have hS3 : St lo n2 H2 _ := sA hS2 hnew0 hle0
 have h5 := OW.keep (n' := n2) h0 (by omega) (fun i hi => hk0 i (OW.id_lt h0 hi).2 (oE2 (nF (OW.fnone h0 hi)) (fun h => ap0 (h ▸ hi))))
 have fo1 := fA hX0 lt1 fo0
 have h6 := OW.keepF h5 hX0.sub (fun i hi => (hX0.eq i (by have := (OW.hb h0) i hi; omega)).trans (OW.fnone h5 hi))
 have hE2 := (hE1.up (n' := n1) (by omega)).trans hX0
 have ho2 := hle0 _ _ ho1
 have hlon1 := hS3.lo
 have lt2 := hS3.lt ho2
 refine WL.not .nil rfl rfl rfl rfl (WL.pick .nil rfl rfl rfl rfl rfl (wN (eT ?_)))
 exact ⟨[(0, pt p0 0), (5, .slice a22 x9.2.length cap23), (6, iv x0), (26, .bool (!x12.2))], (fl4), (!x12.2), a5, cap5, x12.1.code, x12.1.at_, x12.1.seed, F2, rfl, hS3, hE2, ho2, fo1, h6, h3, ap0, hr⟩
 }
 {
 replace hr := ite_neg hr hg0
 refine kN rfl (kN rfl (kN rfl (WL.pick .nil rfl rfl rfl rfl rfl (wN (eT ?_)))))
 exact ⟨[(0, pt p0 0), (5, .slice a22 x9.2.length cap23), (6, iv x0), (26, .bool false)], (fl4), false, a0, cap0, xs1, x2, x3, F1, rfl, hS1, hE1, ho0, fo0, h0, h1, ap0, hr⟩
 }
 }
 {
 intro _ n3 H4 hI
 obtain ⟨x6, a3, cap2, xs4, x7, x10, F3, rfl, hS4, hE3, ho3, fo2, h7, h8, ap1, hr⟩ := hI
 have lt3 := hS4.lt ho3
 have hlen1 := hE3.le
 have hlon2 := hS4.lo
 unfold f_spec_l00Src_jobEvents_J2 at hr
 refine W.cond rfl (fun hc1 => ?_) (fun hc1 => ?_)
 {
 replace hr := iteB_pos hr hc1
 refine wR (mN rfl (mN rfl (mN rfl ?_)))
 obtain ⟨x13, hx2, hr⟩ := bnd_some hr
 refine GL.callIO g .nil (fun i => (F3 i).isSome = true ∨ i = p0) rfl rfl rfl rfl rfl rfl Try.func68 rfl rfl (Nat.le_refl _) hS4.lo (f_spec_l00Src_job_k (x1 := (⟨xs4, x7, x10⟩ : Gl00Src)) g (St.vis hS4 (fun i hi => .inl hi)) (vis_get ho3 (.inr (rfl))) fo2 lo7 h8 hx2) (fun v n4 H5 H6 hn1 hp1 hle1 hnew1 hk1 hd1 => ?_)
 obtain ⟨F4, a6, cap6, hX1, hS5, ho4, rfl, h9⟩ := hp1
 have hS6 : St lo n4 H5 _ := sA hS5 hnew1 hle1
 have h10 := OW.keep (n' := n4) h7 (by omega) (fun i hi => hk1 i (OW.id_lt h7 hi).2 (oE2 (nF (OW.fnone h7 hi)) (fun h => ap1 (h ▸ hi))))
 have fo3 := fA hX1 lt3 fo2
 have h11 := OW.keepF h10 hX1.sub (fun i hi => (hX1.eq i (by have := (OW.hb h7) i hi; omega)).trans (OW.fnone h10 hi))
 have hE4 := (hE3.up (n' := n3) (by omega)).trans hX1
 have ho6 := hle1 _ _ ho4
 have hlon3 := hS6.lo
 have lt4 := hS6.lt ho6
 obtain ⟨x14, hx3, hr⟩ := bnd_some hr
 refine GL.callP g.good .nil rfl rfl rfl rfl rfl rfl Try.func67 rfl rfl hS6.lo (f_spec_l09Bytes_k  g hS6 hx3) (fun v n5 H7 hn2 hk2 hp2 => ?_)
 obtain ⟨a7, cap7, hS7, rfl, h12⟩ := hp2
 have ho7 := oA hk2 ho6 lt4
 have h13 := kA (n' := n5) h11 hk2
 have hS8 : St lo n5 H7 F4 := ⟨by have := hS6.lo; omega, hS7.hb, hS7.fh⟩
 have hlon4 := hS8.lo
 have h14 := OW.lower (lo' := n0) h12 (by omega)
 obtain ⟨F5, hS9, hle2, h15, hf0⟩ := OW.freeze h14 hS8
 have fo4 := (hf0 _ (Ap.fresh0 (OW.lb h12) (by have := lt4; omega))).trans fo3
 have h16 := kF h13 hle2 hf0 (Ap.fresh (OW.lb h12) (OW.hb h11))
 have hE5 : Ext n0 F0 n5 F5 := ⟨Nat.le_trans hE4.le (by omega), hE4.sub.trans hle2, fun i hi => (hf0 i (fun hj => by have := OW.id_lt h14 hj; omega)).trans (hE4.eq i hi)⟩
 obtain ⟨x15, hx4, hr⟩ := bnd_some hr
 refine GL.indexO .nil rfl rfl rfl U25 info24 rfl rfl h16 rfl hx4 (fun b1 kp1 c1 ecs1 hid1 hrow1 hwin1 hR1 hup1 => ?_)
 obtain ⟨a8, cap8, rfl, h17⟩ := GEvent.ofR hR1
 refine fN rfl U24 rfl info22 rfl ?_
 refine GL.store hS9 .nil (vc := [.slice a7 x14.length cap7]) rfl rfl rfl info22 rfl rfl rfl rfl hrow1 (OW.fnone h16 hid1) (wF hwin1) (by have := (OW.id_lt h16 hid1).1; omega) (one1 rfl) rfl (fun H8 hS10 ho8 hk3 => ?_)
 have h18 := hup1 2 [.slice a7 x14.length cap7] ((⟨x15.Kind, x15.N, x14⟩ : GEvent) : GEvent) H8 (bl rfl) (GEvent.toR (x := (⟨x15.Kind, x15.N, x14⟩ : GEvent)) h15) ho8
 have ho9 := (hk3 p0 (fun hj => ap1 (by rw [hj]; exact hid1))).trans ho7
 have hl1 : x9.2.length = (setI xs0 x0 (⟨x15.Kind, x15.N, x14⟩ : GEvent)).length := hl0.trans (setI_length _ _ _).symm
 refine wN (eB (eT ?_))
 exact ⟨[(0, pt p0 0), (5, .slice a22 x9.2.length cap23), (6, iv x0)], (fl3), (setI xs0 x0 (⟨x15.Kind, x15.N, x14⟩ : GEvent)), a6, cap6, x13.1.code, x13.1.at_, x13.1.seed, F5, rfl, hS10, hE5, ho9, fo4, h18, hl1, (h9.mono hle2), ap1, hr⟩
 }
 {
 replace hr := iteB_neg hr hc1
 refine wK (eB (eT ?_))
 exact ⟨[(0, pt p0 0), (5, .slice a22 x9.2.length cap23), (6, iv x0)], (fl3), xs0, a3, cap2, xs4, x7, x10, F3, rfl, hS4, hE3, ho3, fo2, h7, hl0, h8, ap1, hr⟩
 }
 }
 }
 {
 intro _ n6 H9 hI
 obtain ⟨xs2, a1, cap1, xs3, x4, x5, F6, rfl, hS11, hE6, ho10, fo5, h19, hl2, h20, ap2, hr⟩ := hI
 have lt5 := hS11.lt ho10
 have hlen2 := hE6.le
 have hlon5 := hS11.lo
 unfold f_spec_l00Src_jobEvents_J1 at hr
 refine wR (mN rfl ?_)
 obtain ⟨hc2, hr⟩ := chk_some hr
 refine WL.addI .nil rfl rfl rfl rfl rfl hc2.1 hc2.2 (aN rfl (wN (eT ?_)))
 exact ⟨[(0, pt p0 0), (5, .slice a22 x9.2.length cap23), (6, iv (x0 + 1))], (fl3), xs2, (x0 + 1), a1, cap1, xs3, x4, x5, F6, rfl, hS11, hE6, ho10, fo5, h19, hl2, h20, ap2, hr⟩
 }
 }
 {
 replace hr := ite_neg hr hc0
 refine W.exit (eX (eX (eH (eT (wS (wR (mN rfl (aN rfl (wN (eT (W.ret ?_)))))))))))
 obtain rfl := Option.some.inj hr
 exact ⟨.inr rfl, _, (.cons (.tmp rfl) .nil), ⟨F1, a0, cap0, a22, cap23, (hE1.up (by omega)), hS1, ho0, (by rw [← hl0]; rfl), h1, (OW.head hl0 h0)⟩⟩
 }
 }
theorem f_spec_EventsOf_k {Δ : Prims} (g : Env Try.prog Δ) {lo n0 : Nat} {H0 F0 : Heap} (hS : St lo n0 H0 F0) {a2 : Option Addr} {cap3 : Nat} {xs1 : (List UInt8)} {x5 : Int} (h4 : SR F0 (.slice a2 xs1.length cap3) xs1) {res : ((List GEvent))} (hr : f_spec_EventsOf xs1 x5 = some res) :
    C Try.prog Δ n0 11 [.slice a2 xs1.length cap3, iv x5] n0 H0 (fun v n H => ∃ (F : Heap) (ra1 : OA) (rcap2 : Nat), Ext n0 F0 n F ∧ St n0 n H F ∧ v = .slice ra1 res.length rcap2 ∧ Ow n0 n H F ra1 rcap2 res) := by
 refine C.body Try.func11 rfl rfl ?_
 unfold f_spec_EventsOf at hr
 have hS0 : St n0 n0 H0 F0 := hS.low (Nat.le_refl _)
 have hE0 := Ext.refl n0 F0
 have hlo0 := hS0.lo
 refine wS (wR (aN rfl (wN (eT (wS (wR (mN rfl ?_)))))))
 obtain ⟨x6, hx6, hr⟩ := bnd_some hr
 refine GL.callP g.good .nil rfl rfl rfl rfl rfl rfl Try.func35 rfl rfl hS0.lo (f_spec_l00Source_k  g hS0 h4 hx6) (fun v n7 H8 hn9 hk10 hp11 => ?_)
 obtain ⟨F20, a16, cap17, p12, hX21, hS19, rfl, lo13, ho14, fo15, h18⟩ := hp11
 have hS22 : St n0 n7 H8 F20 := ⟨by have := hS0.lo; omega, hS19.hb, hS19.fh⟩
 have hE23 := (hE0.up (n' := n0) (by omega)).trans hX21
 have hlon7 := hS22.lo
 have lt24 := hS22.lt ho14
 refine mN rfl ?_
 obtain ⟨x25, hx25, hr⟩ := bnd_some hr
 refine GL.callIO g .nil (fun i => (F20 i).isSome = true ∨ i = p12) rfl rfl rfl rfl rfl rfl Try.func36 rfl rfl (Nat.le_refl _) hS22.lo (f_spec_l00Src_jobEvents_k (x1 := (⟨x6.code, x6.at_, x6.seed⟩ : Gl00Src)) g (St.vis hS22 (fun i hi => .inl hi)) (vis_get ho14 (.inr (rfl))) fo15 (by omega) h18 hx25) (fun v n26 H27 H28 hn29 hp30 hle31 hnew32 hk33 hd34 => ?_)
 obtain ⟨F42, a35, cap36, a38, cap39, hX43, hS41, ho44, rfl, h37, h40⟩ := hp30
 have hS45 : St n0 n26 H27 _ := sA hS41 hnew32 hle31
 have hE47 := (hE23.up (n' := n7) (by omega)).trans hX43
 have ho48 := hle31 _ _ ho44
 have h50 := OW.lower (lo' := n0) (OW.le h40 hle31) (by omega)
 have hlon26 := hS45.lo
 have lt52 := hS45.lt ho48
 refine aN rfl (wN (eT (W.ret ?_)))
 obtain rfl := Option.some.inj hr
 exact ⟨.inr rfl, _, (.cons (.tmp rfl) .nil), ⟨F42, a38, cap39, (hE47.up (by omega)), hS45, rfl, h50⟩⟩
theorem f_impl_unless_k {Δ : Prims} (g : Env Try.prog Δ) {lo n0 : Nat} {H0 F0 : Heap} (hS : St lo n0 H0 F0) {x1 : Bool} {x2 : Int} {res : (Int)} (hr : f_impl_unless x1 x2 = some res) :
    C Try.prog Δ n0 29 [.bool x1, iv x2] n0 H0 (fun v n H => St n0 n H F0 ∧ v = iv res) := by
 refine C.body Try.func29 rfl rfl ?_
 unfold f_impl_unless at hr
 have hS0 : St n0 n0 H0 F0 := hS.low (Nat.le_refl _)
 have hE0 := Ext.refl n0 F0
 have hlo0 := hS0.lo
 refine wS (wR (aN rfl (wN (eT (wS (wS (wR (mN rfl (wN (eT ?_))))))))))
 refine W.cond rfl (fun hc3 => ?_) (fun hc3 => ?_)
 {
 replace hr := iteB_pos hr hc3
 refine wS (wR (aN rfl (wN (eT (W.ret (eR ?_))))))
 obtain rfl := Option.some.inj hr
 exact ⟨.inr rfl, _, (.cons (.tmp rfl) .nil), ⟨(Ext.st hE0 hS0), rfl⟩⟩
 }
 {
 replace hr := iteB_neg hr hc3
 refine wK (eT (wS (wR (mN rfl (aN rfl (wN (eT (W.ret ?_))))))))
 obtain rfl := Option.some.inj hr
 exact ⟨.inr rfl, _, (.cons (.tmp rfl) .nil), ⟨(Ext.st hE0 hS0), rfl⟩⟩
 }
theorem f_impl_longList_k {Δ : Prims} (g : Env Try.prog Δ) {lo n0 : Nat} {H0 F0 : Heap} (hS : St lo n0 H0 F0) {x1 : Int} {res : (Int)} (hr : f_impl_longList x1 = some res) :
    C Try.prog Δ n0 28 [iv x1] n0 H0 (fun v n H => St n0 n H F0 ∧ v = iv res) := by
 refine C.body Try.func28 rfl rfl ?_
 unfold f_impl_longList at hr
 have hS0 : St n0 n0 H0 F0 := hS.low (Nat.le_refl _)
 have hE0 := Ext.refl n0 F0
 have hlo0 := hS0.lo
 refine wS (wR (aN rfl (wN (eT (wS (wR (mN rfl (bN rfl rfl ?_))))))))
 obtain ⟨x2, hx2, hr⟩ := bnd_some hr
 refine GL.callP g.good .nil rfl rfl rfl rfl rfl rfl Try.func29 rfl rfl hS0.lo (f_impl_unless_k  g hS0 hx2) (fun v n3 H4 hn5 hk6 hp7 => ?_)
 obtain ⟨hS8, rfl⟩ := hp7
 have hS9 : St n0 n3 H4 F0 := ⟨by have := hS0.lo; omega, hS8.hb, hS8.fh⟩
 have hlon3 := hS9.lo
 refine aN rfl (wN (eT (W.ret ?_)))
 obtain rfl := Option.some.inj hr
 exact ⟨.inr rfl, _, (.cons (.tmp rfl) .nil), ⟨(Ext.st hE0 hS9), rfl⟩⟩
theorem f_impl_within_k {Δ : Prims} (g : Env Try.prog Δ) {lo n0 : Nat} {H0 F0 : Heap} (hS : St lo n0 H0 F0) {x1 : Int} {x2 : Int} {x3 : Int} {res : (Bool)} (hr : f_impl_within x1 x2 x3 = some res) :
    C Try.prog Δ n0 30 [iv x1, iv x2, iv x3] n0 H0 (fun v n H => St n0 n H F0 ∧ v = .bool res) := by
 refine C.body Try.func30 rfl rfl ?_
 unfold f_impl_within at hr
 have hS0 : St n0 n0 H0 F0 := hS.low (Nat.le_refl _)
 have hE0 := Ext.refl n0 F0
 have hlo0 := hS0.lo
 refine wS (wR (aN rfl (wN (eT (wS (wR (mN rfl (mN rfl (bN rfl rfl (mN rfl ?_))))))))))
 refine WL.guardD rfl rfl rfl (fun hg4 => ?_) (fun hg4 => ?_)
 {
 replace hr := ite_pos hr hg4
 refine mN rfl (mN rfl (bN rfl rfl (WL.pick .nil rfl rfl rfl rfl rfl (aN rfl (wN (eT (W.ret ?_)))))))
 obtain rfl := Option.some.inj hr
 exact ⟨.inr rfl, _, (.cons (.tmp rfl) .nil), ⟨(Ext.st hE0 hS0), rfl⟩⟩
 }
 {
 replace hr := ite_neg hr hg4
 refine kN rfl (kN rfl (kN rfl (WL.pick .nil rfl rfl rfl rfl rfl (aN rfl (wN (eT (W.ret ?_)))))))
 obtain rfl := Option.some.inj hr
 exact ⟨.inr rfl, _, (.cons (.tmp rfl) .nil), ⟨(Ext.st hE0 hS0), rfl⟩⟩
 }
theorem f_impl_first_k {Δ : Prims} (g : Env Try.prog Δ) {lo n0 : Nat} {H0 F0 : Heap} (hS : St lo n0 H0 F0) {a2 : Option Addr} {cap3 : Nat} {xs1 : (List Int)} (h4 : SR F0 (.slice a2 xs1.length cap3) xs1) {res : (Int)} (hr : f_impl_first xs1 = some res) :
    C Try.prog Δ n0 27 [.slice a2 xs1.length cap3] n0 H0 (fun v n H => St n0 n H F0 ∧ v = iv res) := by
 refine C.body Try.func27 rfl rfl ?_
 unfold f_impl_first at hr
 have hS0 : St n0 n0 H0 F0 := hS.low (Nat.le_refl _)
 have hE0 := Ext.refl n0 F0
 have hlo0 := hS0.lo
 refine wS (wR (aN rfl (wN (eT (wS (wS (wR (mN rfl (WL.len .nil rfl rfl rfl U31 rfl (mN rfl (wN ?_)))))))))))
 refine eT (W.block ?_)
 refine W.loopF (fun k0 fr n H => ∃ (x66 : Int) (F : Heap), fr = [(5, .slice a2 xs1.length cap3), (6, iv (xs1.length : Int)), (7, iv x66)] ∧ St n0 n H F ∧ Ext n0 F0 n F ∧ SR F (.slice a2 xs1.length cap3) xs1 ∧ f_impl_first_L0 xs1 k0 x66 = some res) BIG (fr0 := [(5, .slice a2 xs1.length cap3), (6, iv (xs1.length : Int)), (7, iv 0)]) (fl3) ?_ ?_ ?_
 {
 exact ⟨0, F0, rfl, hS0, hE0, h4, hr⟩
 }
 {
 intro fr n H hI
 obtain ⟨x66, F62, hfr, hS63, hE64, h65, hr⟩ := hI
 rw [f_impl_first_L0] at hr
 cases hr
 }
 {
 intro k0 _ n60 H61 hI
 obtain ⟨x66, F62, rfl, hS63, hE64, h65, hr⟩ := hI
 have hlen60 := hE64.le
 have hlon60 := hS63.lo
 rw [f_impl_first_L0] at hr
 refine wS (wR (bN rfl rfl (wN (eT (wS ?_)))))
 refine W.condD rfl (fun hc68 => ?_) (fun hc68 => ?_)
 {
 replace hr := ite_pos hr hc68
 refine wK (eT (wS (W.block (wS (wR ?_)))))
 obtain ⟨x78, hx78, hr⟩ := bnd_some hr
 refine GL.index .nil rfl rfl rfl U31 info3 rfl rfl h65 hS63.fh rfl hx78 (fun b79 kp80 c81 ecs82 hrow83 hwin84 hR85 => ?_)
 have hcs : _ = ([iv x78] : List Value) := hR85
 subst hcs
 refine lN rfl U3 rfl hrow83 ((win_get0 hwin84 (show (0 : Nat) < 1 by decide)).trans rfl) (aN rfl (wN (eT (wS (wR (mN rfl (bN rfl rfl (wN (eT ?_)))))))))
 refine W.condN rfl (fun hc86 => ?_) (fun hc86 => ?_)
 {
 replace hr := ite_neg hr hc86
 refine wS (wR (mN rfl (aN rfl (wN (eT (W.ret (Ex.blk_ret (eR (eR (Ex.blk_ret (eR ?_)))))))))))
 obtain rfl := Option.some.inj hr
 exact ⟨.inr rfl, _, (.cons (.tmp rfl) .nil), ⟨(Ext.st hE64 hS63), rfl⟩⟩
 }
 {
 replace hr := ite_pos hr hc86
 refine wK (eB (eT (wR ?_)))
 obtain ⟨hc87, hr⟩ := chk_some hr
 refine WL.addI .nil rfl rfl rfl rfl rfl hc87.1 hc87.2 (mN rfl (wN (eT ?_)))
 exact ⟨[(5, .slice a2 xs1.length cap3), (6, iv (xs1.length : Int)), (7, iv (x66 + 1))], (fl3), (x66 + 1), F62, rfl, hS63, hE64, h65, hr⟩
 }
 }
 {
 replace hr := ite_neg hr hc68
 refine W.exit (eX (eX (eH (eT (wS (wR (aN rfl (wN (eT (W.ret ?_))))))))))
 obtain rfl := Option.some.inj hr
 exact ⟨.inr rfl, _, (.cons (.tmp rfl) .nil), ⟨(Ext.st hE64 hS63), rfl⟩⟩
 }
 }
theorem f_impl_newCluster_k {Δ : Prims} (g : Env Try.prog Δ) {lo n0 : Nat} {H0 F0 : Heap} (hS : St lo n0 H0 F0) {x1 : Int} {res : (GCluster)} (hr : f_impl_newCluster x1 = some res) :
    C Try.prog Δ n0 31 [iv x1] n0 H0 (fun v n H => ∃ (F : Heap) (ra5 : OA) (rcap6 : Nat) (rS8 : Nat → Prop) (ra9 : OA) (rcap10 : Nat) (ra12 : OA) (rcap13 : Nat) (rp1 : Nat), Ext n0 F0 n F ∧ St n0 n H F ∧ v = pt rp1 0 ∧ n0 ≤ rp1 ∧ H rp1 = some (.row 1 [.slice ra5 res.Peers.length rcap6, .slice ra9 res.Net.length rcap10, .slice ra12 res.Chosen.length rcap13, .bool res.Conflict]) ∧ F rp1 = none ∧ OD n0 n H F rS8 [] (.slice ra5 res.Peers.length rcap6) res.Peers ∧ Ow n0 n H F ra9 rcap10 res.Net ∧ Ow n0 n H F ra12 rcap13 res.Chosen ∧ ¬ rS8 rp1 ∧ nP (.slice ra9 res.Net.length rcap10) rp1 ∧ nP (.slice ra12 res.Chosen.length rcap13) rp1 ∧ nS (.slice ra9 res.Net.length rcap10) rS8 ∧ nS (.slice ra12 res.Chosen.length rcap13) rS8 ∧ nA (.slice ra12 res.Chosen.length rcap13) (.slice ra9 res.Net.length rcap10)) := by
 refine C.body Try.func31 rfl rfl ?_
 unfold f_impl_newCluster at hr
 have hS0 : St n0 n0 H0 F0 := hS.low (Nat.le_refl _)
 have hE0 := Ext.refl n0 F0
 have hlo0 := hS0.lo
 refine wS (wR (aN rfl (wN (eT (wS (wR ?_))))))
 refine WL.buildL .nil (cells := [.slice none 0 0, .slice none 0 0, .slice none 0 0, .bool false]) rfl rfl rfl U30 info30 rfl rfl rfl (by simp only [List.mapM_cons, List.mapM_nil, info26, info27, info28, info4]; rfl) rfl (by first | rfl | ((conv => lhs; simp [splice, fillL, cells_int, cells_bool, cells_string, cells_str, cells_slice, cells_ptr, cells_map, cells_func, cells_nilFunc, cells_nilIface, cells_iface, cells_agg, cells_u8]) <;> rfl)) ?_
 refine GL.box hS0 .nil (vc := [.slice none 0 0, .slice none 0 0, .slice none 0 0, .bool false]) rfl rfl rfl rfl rfl bxP (fun H2 hS3 ho4 hk5 => ?_)
 have fo6 := hS0.fnone (Nat.le_refl _)
 have hlon01 := hS3.lo
 have lt7 : n0 < (n0 + 1) := by omega
 refine aN rfl (wN (eT (wS (wS (wR (mN rfl (mN rfl (wN (eT (W.block ?_))))))))))
 refine W.loopF (fun k0 fr n H => ∃ (x0 : Int) (a0 : OA) (cap0 : Nat) (xs0 : (List GPeer)) (S0 : Nat → Prop) (F : Heap), fr = [(3, pt n0 0), (6, iv x1), (7, iv x0)] ∧ St n0 n H F ∧ Ext n0 F0 n F ∧ H n0 = some (.row 1 [.slice a0 xs0.length cap0, .slice none 0 0, .slice none 0 0, .bool false]) ∧ F n0 = none ∧ OD n0 n H F S0 [] (.slice a0 xs0.length cap0) xs0 ∧ ¬ S0 n0 ∧ f_impl_newCluster_L0 x1 k0 x0 xs0 = some res) BIG (fr0 := [(3, pt n0 0), (6, iv x1), (7, iv 0)]) (fl3) ?_ ?_ ?_
 {
 exact ⟨0, none, 0, [], (fun _ => False), F0, rfl, hS3, (hE0.up (by omega)), ho4, fo6, OD.nil, (fun h => by cases h), hr⟩
 }
 {
 intro fr n H hI
 obtain ⟨x0, a0, cap0, xs0, S0, F1, hfr, hS1, hE1, ho0, fo0, h0, ap0, hr⟩ := hI
 rw [f_impl_newCluster_L0] at hr
 cases hr
 }
 {
 intro k0 _ n1 H1 hI
 obtain ⟨x0, a0, cap0, xs0, S0, F1, rfl, hS1, hE1, ho0, fo0, h0, ap0, hr⟩ := hI
 have lt0 := hS1.lt ho0
 have hlen0 := hE1.le
 have hlon0 := hS1.lo
 rw [f_impl_newCluster_L0] at hr
 refine wS (wR (bN rfl rfl (wN (eT (wS ?_)))))
 refine W.condD rfl (fun hc0 => ?_) (fun hc0 => ?_)
 {
 replace hr := ite_pos hr hc0
 refine wK (eT (wS (W.block (wR (mN rfl (mN rfl (zN rfl (fN rfl U30 rfl info26 rfl (lN rfl U26 rfl ho0 rfl ?_)))))))))
 refine WL.buildL .nil (cells := [.bool true, iv 0, iv 0, iv 0, iv 0, .slice none 0 0, .slice none 0 0, .slice none 0 0, .slice none 0 0]) rfl rfl rfl U42 info42 rfl rfl rfl (by simp only [List.mapM_cons, List.mapM_nil, info4, info3, info3, info3, info3, info28, info40, info31, info31]; rfl) rfl (by first | rfl | ((conv => lhs; simp [splice, fillL, cells_int, cells_bool, cells_string, cells_str, cells_slice, cells_ptr, cells_map, cells_func, cells_nilFunc, cells_nilIface, cells_iface, cells_agg, cells_u8]) <;> rfl)) ?_
 refine GL.litX (cs := [.bool true, iv 0, iv 0, iv 0, iv 0, .slice none 0 0, .slice none 0 0, .slice none 0 0, .slice none 0 0]) (xs := ([(⟨true, 0, 0, 0, 0, [], [], [], []⟩ : GPeer)] : List GPeer)) hS1 .nil rfl rfl rfl U26 info42 rfl rfl rfl (by decide) (by decide) rfl rfl rfl rfl rfl (RA.cons (cs := [.bool true, iv 0, iv 0, iv 0, iv 0, .slice none 0 0, .slice none 0 0, .slice none 0 0, .slice none 0 0]) (a := ((⟨true, 0, 0, 0, 0, [], [], [], []⟩ : GPeer) : GPeer)) (GPeer.toR (x := (⟨true, 0, 0, 0, 0, [], [], [], []⟩ : GPeer)) SR.nil SR.nil SR.nil SR.nil) RA.nil) rfl (fun H3 hS2 hO0 hk0 hsl0 => ?_)
 have ho1 := oA hk0 ho0 lt0
 have h1 := OD.keep (n' := (n1 + 1)) h0 (by omega) (fun i hi => hk0 i (OD.id_lt h0 hi).2)
 have hlon1 := hS2.lo
 obtain ⟨hc1, hr⟩ := chk_some hr
 refine GL.appendD (w := (⟨true, 0, 0, 0, 0, [], [], [], []⟩ : GPeer)) hS2 .nil rfl rfl rfl U26 U26 rfl info42 rfl rfl rfl (by decide) rfl rfl h1 (by omega) (by omega) hsl0 ⟨none, 0, none, 0, none, 0, none, 0, rfl⟩ (GPeer.nilP) hc1 (fun a1 cap1 n2 H4 S1 hS4 hn0 hO1 hk1 hid0 => ?_)
 have ho2 := (hk1 _ (by have := lt0; omega) ap0).trans ho1
 have hlon2 := hS4.lo
 refine zN rfl (fN rfl U30 rfl info26 rfl ?_)
 refine GL.store hS4 .nil (vc := [.slice a1 (xs0 ++ [(⟨true, 0, 0, 0, 0, [], [], [], []⟩ : GPeer)]).length cap1]) (c' := [.slice a1 (xs0 ++ [(⟨true, 0, 0, 0, 0, [], [], [], []⟩ : GPeer)]).length cap1, .slice none 0 0, .slice none 0 0, .bool false]) rfl rfl rfl info26 rfl rfl rfl rfl ho2 fo0 (bl rfl) (by omega) (one1 rfl) rfl (fun H5 hS5 ho3 hk2 => ?_)
 have h2 := OD.keep hO1 (Nat.le_refl _) (fun i hi => hk2 i (fun hj => (Ap.new0 hid0 (by have := lt0; omega) ap0) (hj ▸ hi)))
 refine wN (eB (eT (wR ?_)))
 obtain ⟨hc2, hr⟩ := chk_some hr
 refine WL.addI .nil rfl rfl rfl rfl rfl hc2.1 hc2.2 (mN rfl (wN (eT ?_)))
 exact ⟨[(3, pt n0 0), (6, iv x1), (7, iv (x0 + 1))], (fl3), (x0 + 1), a1, cap1, (xs0 ++ [(⟨true, 0, 0, 0, 0, [], [], [], []⟩ : GPeer)]), S1, F1, rfl, hS5, (hE1.up (by omega)), ho3, fo0, h2, (Ap.new0 hid0 (by have := lt0; omega) ap0), hr⟩
 }
 {
 replace hr := ite_neg hr hc0
 refine W.exit (eX (eX (eH (eT (wS (wR (mN rfl (aN rfl (wN (eT (W.ret ?_)))))))))))
 obtain rfl := Option.some.inj hr
 exact ⟨.inr rfl, _, (.cons (.tmp rfl) .nil), ⟨F1, a0, cap0, S0, none, 0, none, 0, n0, (hE1.up (by omega)), hS1, rfl, (by omega), ho0, fo0, h0, OW.nil, OW.nil, ap0, (fun h => by cases h), (fun h => by cases h), (fun b h => by cases h), (fun b h => by cases h), (fun b h => by cases h)⟩⟩
 }
 }
theorem f_slices_Clone_byte_k {Δ : Prims} (g : Env Try.prog Δ) {lo n0 : Nat} {H0 F0 : Heap} (hS : St lo n0 H0 F0) {a2 : Option Addr} {cap3 : Nat} {xs1 : List UInt8} (h4 : SrcX H0 F0 (.slice a2 xs1.length cap3) xs1) {res : List UInt8} (hr : f_slices_Clone_byte xs1 = some res) :
    C Try.prog Δ n0 59 [.slice a2 xs1.length cap3] n0 H0 (fun v n H => ∃ (ra1 : OA) (rcap2 : Nat), St n0 n H F0 ∧ v = .slice ra1 res.length rcap2 ∧ Ow n0 n H F0 ra1 rcap2 res) := by
  refine C.body Try.func59 rfl rfl ?_
  obtain ⟨hlen, hr⟩ := chk_some hr
  obtain rfl := Option.some.inj hr
  have hS0 : St n0 n0 H0 F0 := hS.low (Nat.le_refl _)
  refine wS (wR (aN rfl (wN (eT (wS (wS (wR (mN rfl ?_))))))))
  refine WL.eqNil .nil rfl rfl rfl (by decide) U22 rfl rfl ?_
  refine wN (eT ?_)
  refine W.cond rfl (fun hc => ?_) (fun hc => ?_)
  · have hnil := SrcX.isNone h4 hc
    subst hnil
    refine wS (wR (aN rfl (wN (eT (W.ret ?_)))))
    repeat (with_reducible refine Ex.thn_ret ?_)
    exact ⟨.inr rfl, _, resl1 rfl, none, 0, hS0, rfl, OW.nil⟩
  · with_reducible refine W.skip ?_
    refine eT (wS (wR ?_))
    refine GL.lit (cs := []) (xs := ([] : List UInt8)) hS0 .nil rfl rfl rfl U22 info5 rfl rfl rfl (by decide) (by decide) rfl rfl rfl rfl rfl RA.nil rfl (fun H5 hS6 hO7 hk8 => ?_)
    refine mN rfl ?_
    refine GL.append (α := UInt8) hS6 .nil rfl rfl rfl U22 U22 rfl info5 rfl rfl rfl (by decide) rfl rfl hO7 (by omega) (by omega) (h4.up (n' := n0) hS0 hk8) (by simpa using hlen) (fun a9 c10 n11 H12 hS13 hn14 hO15 hk16 hid17 => ?_)
    refine aN rfl (wN (eT (W.ret ?_)))
    rw [List.nil_append] at hO15
    exact ⟨.inr rfl, _, resl1 rfl, a9, c10, hS13, rfl, hO15⟩
theorem f_impl_copyRecs_k {Δ : Prims} (g : Env Try.prog Δ) {lo n0 : Nat} {H0 F0 : Heap} (hS : St lo n0 H0 F0) {a2 : Option Addr} {cap3 : Nat} {xs1 : (List GRec)} (h4 : SR F0 (.slice a2 xs1.length cap3) xs1) {res : ((List GRec))} (hr : f_impl_copyRecs xs1 = some res) :
    C Try.prog Δ n0 61 [.slice a2 xs1.length cap3] n0 H0 (fun v n H => ∃ (F : Heap) (ra1 : OA) (rcap2 : Nat), Ext n0 F0 n F ∧ St n0 n H F ∧ v = .slice ra1 res.length rcap2 ∧ Ow n0 n H F ra1 rcap2 res) := by
 refine C.body Try.func61 rfl rfl ?_
 unfold f_impl_copyRecs at hr
 have hS0 : St n0 n0 H0 F0 := hS.low (Nat.le_refl _)
 have hE0 := Ext.refl n0 F0
 have hlo0 := hS0.lo
 refine wS (wR (aN rfl (wN (eT (wS (wR ?_))))))
 refine GL.lit (cs := []) (xs := ([] : List GRec)) hS0 .nil rfl rfl rfl U28 info35 rfl rfl rfl (by decide) (by decide) rfl rfl rfl rfl rfl RA.nil rfl (fun H5 hS6 hO7 hk8 => ?_)
 have h9 := OW.lower (lo' := n0) hO7 (by omega)
 have hlon01 := hS6.lo
 refine aN rfl (wN (eT (wS (wS (wR (mN rfl (WL.len .nil rfl rfl rfl U28 rfl (mN rfl (wN (eT (W.block ?_)))))))))))
 refine W.loopF (fun k0 fr n H => ∃ (a0 : OA) (cap0 : Nat) (xs0 : (List GRec)) (x0 : Int) (F : Heap), fr = [(3, .slice a0 xs0.length cap0), (7, .slice a2 xs1.length cap3), (8, iv (xs1.length : Int)), (9, iv x0)] ∧ St n0 n H F ∧ Ext n0 F0 n F ∧ Ow n0 n H F a0 cap0 xs0 ∧ SR F (.slice a2 xs1.length cap3) xs1 ∧ f_impl_copyRecs_L0 xs1 k0 xs0 x0 = some res) BIG (fr0 := [(3, .slice (some ⟨n0, 0, none⟩) ([] : List GRec).length 0), (7, .slice a2 xs1.length cap3), (8, iv (xs1.length : Int)), (9, iv 0)]) (fl4) ?_ ?_ ?_
 {
 exact ⟨(some ⟨n0, 0, none⟩), 0, ([] : List GRec), 0, F0, rfl, hS6, (hE0.up (by omega)), h9, h4, hr⟩
 }
 {
 intro fr n H hI
 obtain ⟨a0, cap0, xs0, x0, F1, hfr, hS1, hE1, h0, h1, hr⟩ := hI
 rw [f_impl_copyRecs_L0] at hr
 cases hr
 }
 {
 intro k0 _ n1 H1 hI
 obtain ⟨a0, cap0, xs0, x0, F1, rfl, hS1, hE1, h0, h1, hr⟩ := hI
 have hlen0 := hE1.le
 have hlon0 := hS1.lo
 rw [f_impl_copyRecs_L0] at hr
 refine wS (wR (bN rfl rfl (wN (eT (wS ?_)))))
 refine W.condD rfl (fun hc0 => ?_) (fun hc0 => ?_)
 {
 replace hr := ite_pos hr hc0
 refine wK (eT (wS (W.block (wS (wR ?_)))))
 obtain ⟨x1, hx0, hr⟩ := bnd_some hr
 refine GL.index .nil rfl rfl rfl U28 info35 rfl rfl h1 hS1.fh rfl hx0 (fun b0 kp0 c0 ecs0 hrow0 hwin0 hR0 => ?_)
 obtain ⟨a1, cap1, rfl, h2⟩ := GRec.ofR hR0
 refine WL.loadN .nil (l' := [iv x1.Term, iv x1.Index, .slice a1 x1.Data.length cap1]) rfl rfl rfl U35 rfl info35 rfl hrow0 hwin0 rfl ?_
 refine GL.alloc hS1 .nil (zc := [iv 0, iv 0, .slice none 0 0]) rfl rfl rfl info35 rfl rfl rfl (fun H2 hS2 ho0 hk0 => ?_)
 have fo0 := hS1.fnone (Nat.le_refl _)
 have h3 := kA (n' := (n1 + 1)) h0 hk0
 have hlon1 := hS2.lo
 have lt0 : n1 < (n1 + 1) := by omega
 refine GL.store hS2 .nil (vc := [iv x1.Term, iv x1.Index, .slice a1 x1.Data.length cap1]) (c' := [iv x1.Term, iv x1.Index, .slice a1 x1.Data.length cap1]) rfl rfl rfl info35 rfl rfl rfl rfl ho0 fo0 (bl rfl) (by omega) bxP rfl (fun H3 hS3 ho1 hk1 => ?_)
 have h5 := kB h3 hk1 (aW h0)
 refine wN (eT (wS (wR (fN rfl U35 rfl info22 rfl (lN rfl U22 rfl ho1 rfl ?_)))))
 obtain ⟨x2, hx1, hr⟩ := bnd_some hr
 refine GL.callP g.good .nil rfl rfl rfl rfl rfl rfl Try.func59 rfl rfl hS3.lo (f_slices_Clone_byte_k  g hS3 (SR.src h2 hS3.fh) hx1) (fun v n2 H4 hn0 hk2 hp0 => ?_)
 obtain ⟨a3, cap2, hS4, rfl, h6⟩ := hp0
 have ho2 := oA hk2 ho1 lt0
 have h7 := kA (n' := n2) h5 hk2
 have hS5 : St n0 n2 H4 F1 := ⟨by have := hS3.lo; omega, hS4.hb, hS4.fh⟩
 have hlon2 := hS5.lo
 have h8 := OW.lower (lo' := n0) h6 (by omega)
 refine fN rfl U35 rfl info22 rfl ?_
 refine GL.store hS5 .nil (vc := [.slice a3 x2.length cap2]) (c' := [iv x1.Term, iv x1.Index, .slice a3 x2.length cap2]) rfl rfl rfl info22 rfl rfl rfl rfl ho2 fo0 (bl rfl) (by omega) (one1 rfl) rfl (fun H6 hS7 ho3 hk3 => ?_)
 have h10 := kB h7 hk3 (aW h0)
 have h11 := kB h8 hk3 (Ap.fresh0 (OW.lb h6) (by have := lt0; omega))
 refine wN (eT (wR (mN rfl (WL.loadN .nil (l' := [iv x1.Term, iv x1.Index, .slice a3 x2.length cap2]) rfl rfl rfl U35 rfl info35 rfl ho3 rfl rfl ?_))))
 obtain ⟨F2, hS8, hle0, h12, hf0⟩ := OW.freeze h11 hS7
 have h13 := kF h10 hle0 hf0 (Ap.fresh (OW.lb h6) (OW.hb h5))
 have hE2 : Ext n0 F0 n2 F2 := ⟨Nat.le_trans hE1.le (by omega), hE1.sub.trans hle0, fun i hi => (hf0 i (fun hj => by have := OW.id_lt h11 hj; omega)).trans (hE1.eq i hi)⟩
 refine GL.lit (cs := [iv x1.Term, iv x1.Index, .slice a3 x2.length cap2]) (xs := ([(⟨x1.Term, x1.Index, x2⟩ : GRec)] : List GRec)) hS8 .nil rfl rfl rfl U28 info35 rfl rfl rfl (by decide) (by decide) rfl rfl rfl rfl rfl (RA.cons (cs := [iv x1.Term, iv x1.Index, .slice a3 x2.length cap2]) (a := ((⟨x1.Term, x1.Index, x2⟩ : GRec) : GRec)) (GRec.toR (x := (⟨x1.Term, x1.Index, x2⟩ : GRec)) h12) RA.nil) rfl (fun H7 hS9 hO0 hk4 => ?_)
 have h14 := kA (n' := (n2 + 1)) h13 hk4
 have h15 := OW.lower (lo' := n0) hO0 (by omega)
 have hlon3 := hS9.lo
 obtain ⟨hc1, hr⟩ := chk_some hr
 refine GL.append (α := GRec) hS9 .nil rfl rfl rfl U28 U28 rfl info35 rfl rfl rfl (by decide) rfl rfl h14 (by omega) (by omega) (OW.src h15) hc1 (fun a4 cap4 n3 H8 hS10 hn1 hO1 hk5 hid0 => ?_)
 have hlon4 := hS10.lo
 refine aN rfl (wN (eB (eT (wR ?_))))
 obtain ⟨hc2, hr⟩ := chk_some hr
 refine WL.addI .nil rfl rfl rfl rfl rfl hc2.1 hc2.2 (mN rfl (wN (eT ?_)))
 exact ⟨[(3, .slice a4 (xs0 ++ ([(⟨x1.Term, x1.Index, x2⟩ : GRec)] : List GRec)).length cap4), (7, .slice a2 xs1.length cap3), (8, iv (xs1.length : Int)), (9, iv (x0 + 1))], (fl4), a4, cap4, (xs0 ++ ([(⟨x1.Term, x1.Index, x2⟩ : GRec)] : List GRec)), (x0 + 1), F2, rfl, hS10, (hE2.up (by omega)), hO1, (h1.mono hle0), hr⟩
 }
 {
 replace hr := ite_neg hr hc0
 refine W.exit (eX (eX (eH (eT (wS (wR (mN rfl (aN rfl (wN (eT (W.ret ?_)))))))))))
 obtain rfl := Option.some.inj hr
 exact ⟨.inr rfl, _, (.cons (.tmp rfl) .nil), ⟨F1, a0, cap0, (hE1.up (by omega)), hS1, rfl, h0⟩⟩
 }
 }
theorem f__impl_Msg_copied_k {Δ : Prims} (g : Env Try.prog Δ) {lo n0 : Nat} {H0 F0 : Heap} (hS : St lo n0 H0 F0) {x1 : GMsg} {a2 : Option Addr} {cap3 : Nat} (h4 : SR F0 (.slice a2 x1.Log.length cap3) x1.Log) {res : (GMsg)} (hr : f__impl_Msg_copied x1 = some res) :
    C Try.prog Δ n0 64 [.agg [iv x1.Kind, iv x1.From, iv x1.To, iv x1.Term, iv x1.A, iv x1.B, iv x1.C, .bool x1.Ok, .slice a2 x1.Log.length cap3].toArray] n0 H0 (fun v n H => ∃ (F : Heap) (ra1 : OA) (rcap2 : Nat), Ext n0 F0 n F ∧ St n0 n H F ∧ v = .agg [iv res.Kind, iv res.From, iv res.To, iv res.Term, iv res.A, iv res.B, iv res.C, .bool res.Ok, .slice ra1 res.Log.length rcap2].toArray ∧ SR F (.slice ra1 res.Log.length rcap2) res.Log) := by
 refine C.body Try.func64 rfl rfl ?_
 unfold f__impl_Msg_copied at hr
 have hS0 : St n0 n0 H0 F0 := hS.low (Nat.le_refl _)
 have hE0 := Ext.refl n0 F0
 have hlo0 := hS0.lo
 refine wS (wR ?_)
 refine GL.box hS0 .nil (vc := [iv x1.Kind, iv x1.From, iv x1.To, iv x1.Term, iv x1.A, iv x1.B, iv x1.C, .bool x1.Ok, .slice a2 x1.Log.length cap3]) rfl rfl rfl rfl rfl bxP (fun H5 hS6 ho7 hk8 => ?_)
 have fo9 := hS0.fnone (Nat.le_refl _)
 have hlon01 := hS6.lo
 have lt10 : n0 < (n0 + 1) := by omega
 refine GL.alloc hS6 .nil (zc := [iv 0, iv 0, iv 0, iv 0, iv 0, iv 0, iv 0, .bool false, .slice none 0 0]) rfl rfl rfl info85 rfl rfl rfl (fun H11 hS12 ho13 hk14 => ?_)
 have fo15 := hS6.fnone (Nat.le_refl _)
 have ho17 := oA hk14 ho7 lt10
 have hlon0 := hS12.lo
 have lt16 : (n0 + 1) < ((n0 + 1) + 1) := by omega
 refine wN (eT (wS (wR (fN rfl U85 rfl info28 rfl (lN rfl U28 rfl ho17 rfl ?_)))))
 obtain ⟨x18, hx18, hr⟩ := bnd_some hr
 refine GL.callP g.good .nil rfl rfl rfl rfl rfl rfl Try.func61 rfl rfl hS12.lo (f_impl_copyRecs_k  g hS12 h4 hx18) (fun v n19 H20 hn21 hk22 hp23 => ?_)
 obtain ⟨F28, a24, cap25, hX29, hS27, rfl, h26⟩ := hp23
 have ho30 := oA hk22 ho17 lt10
 have ho31 := oA hk22 ho13 lt16
 have hS32 : St n0 n19 H20 F28 := ⟨by have := hS12.lo; omega, hS27.hb, hS27.fh⟩
 have fo33 := fA hX29 lt10 fo9
 have fo34 := fA hX29 lt16 fo15
 have hE35 := (hE0.up (n' := ((n0 + 1) + 1)) (by omega)).trans hX29
 have hlon19 := hS32.lo
 have h36 := OW.lower (lo' := n0) h26 (by omega)
 refine fN rfl U85 rfl info28 rfl ?_
 refine GL.store hS32 .nil (vc := [.slice a24 x18.length cap25]) (c' := [iv x1.Kind, iv x1.From, iv x1.To, iv x1.Term, iv x1.A, iv x1.B, iv x1.C, .bool x1.Ok, .slice a24 x18.length cap25]) rfl rfl rfl info28 rfl rfl rfl rfl ho30 fo33 (bl rfl) (by omega) (one1 rfl) rfl (fun H40 hS41 ho42 hk43 => ?_)
 have ho44 := (hk43 _ (by omega)).trans ho31
 have h45 := kB h36 hk43 (Ap.fresh0 (OW.lb h26) (by have := lt10; omega))
 refine wN (eT (wS (wR (WL.loadN .nil (l' := [iv x1.Kind, iv x1.From, iv x1.To, iv x1.Term, iv x1.A, iv x1.B, iv x1.C, .bool x1.Ok, .slice a24 x18.length cap25]) rfl rfl rfl U85 rfl info85 rfl ho42 rfl rfl ?_))))
 refine GL.store hS41 .nil (vc := [iv x1.Kind, iv x1.From, iv x1.To, iv x1.Term, iv x1.A, iv x1.B, iv x1.C, .bool x1.Ok, .slice a24 x18.length cap25]) (c' := [iv x1.Kind, iv x1.From, iv x1.To, iv x1.Term, iv x1.A, iv x1.B, iv x1.C, .bool x1.Ok, .slice a24 x18.length cap25]) rfl rfl rfl info85 rfl rfl rfl rfl ho44 fo34 (bl rfl) (by omega) bxP rfl (fun H46 hS47 ho48 hk49 => ?_)
 have h51 := kB h45 hk49 (Ap.fresh0 (OW.lb h26) (by have := lt16; omega))
 refine wN (eT (W.ret ?_))
 obtain ⟨F52, hS53, hle54, h55, hf56⟩ := OW.freeze h51 hS47
 have hE59 : Ext n0 F0 n19 F52 := ⟨Nat.le_trans hE35.le (by omega), hE35.sub.trans hle54, fun i hi => (hf56 i (fun hj => by have := OW.id_lt h51 hj; omega)).trans (hE35.eq i hi)⟩
 obtain rfl := Option.some.inj hr
 exact ⟨.inr rfl, _, (.cons (.cellN (l := [iv x1.Kind, iv x1.From, iv x1.To, iv x1.Term, iv x1.A, iv x1.B, iv x1.C, .bool x1.Ok, .slice a24 x18.length cap25]) rfl U85 rfl info85 ho48 rfl rfl) .nil), ⟨F52, a24, cap25, (hE59.up (by omega)), hS53, rfl, h55⟩⟩
theorem f_impl_Cluster_send_k {Δ : Prims} (g : Env Try.prog Δ) {lo n0 : Nat} {H0 F0 : Heap} (hS : St lo n0 H0 F0) {p0 : Nat} {x1 : GCluster} {ez0 : Nat} {a2 : Option Addr} {cap3 : Nat} {S6 : Nat → Prop} {a7 : Option Addr} {cap8 : Nat} {a11 : Option Addr} {cap12 : Nat} {x18 : GMsg} {a19 : Option Addr} {cap20 : Nat} (ho15 : H0 p0 = some (.row ez0 [.slice a2 x1.Peers.length cap3, .slice a7 x1.Net.length cap8, .slice a11 x1.Chosen.length cap12, .bool x1.Conflict])) (fo16 : F0 p0 = none) (lo17 : lo ≤ p0) (h4 : OD lo n0 H0 F0 S6 [] (.slice a2 x1.Peers.length cap3) x1.Peers) (h9 : Ow lo n0 H0 F0 a7 cap8 x1.Net) (h13 : Ow lo n0 H0 F0 a11 cap12 x1.Chosen) (h21 : SR F0 (.slice a19 x18.Log.length cap20) x18.Log) (ap22 : ¬ S6 p0) (ap23 : nP (.slice a7 x1.Net.length cap8) p0) (ap24 : nS (.slice a7 x1.Net.length cap8) S6) (ap25 : nP (.slice a11 x1.Chosen.length cap12) p0) (ap26 : nS (.slice a11 x1.Chosen.length cap12) S6) (ap27 : nA (.slice a11 x1.Chosen.length cap12) (.slice a7 x1.Net.length cap8)) {res : (GCluster)} (hr : f_impl_Cluster_send x1 x18 = some res) :
    C Try.prog Δ lo 55 [pt p0 0, .agg [iv x18.Kind, iv x18.From, iv x18.To, iv x18.Term, iv x18.A, iv x18.B, iv x18.C, .bool x18.Ok, .slice a19 x18.Log.length cap20].toArray] n0 H0 (fun v n H => ∃ (F : Heap) (rS2 : Nat → Prop) (ra4 : OA) (rcap5 : Nat) (ra7 : OA) (rcap8 : Nat), Ext n0 F0 n F ∧ St lo n H F ∧ H p0 = some (.row ez0 [.slice a2 x1.Peers.length cap3, .slice ra4 res.Net.length rcap5, .slice ra7 res.Chosen.length rcap8, .bool res.Conflict]) ∧ v = .tuple #[] ∧ OD lo n H F rS2 [] (.slice a2 x1.Peers.length cap3) res.Peers ∧ x1.Peers.length = res.Peers.length ∧ Ow lo n H F ra4 rcap5 res.Net ∧ Ow lo n H F ra7 rcap8 res.Chosen ∧ ¬ rS2 p0 ∧ nP (.slice ra4 res.Net.length rcap5) p0 ∧ nP (.slice ra7 res.Chosen.length rcap8) p0 ∧ nS (.slice ra4 res.Net.length rcap5) rS2 ∧ nS (.slice ra7 res.Chosen.length rcap8) rS2 ∧ nA (.slice ra7 res.Chosen.length rcap8) (.slice ra4 res.Net.length rcap5)) := by
 refine C.body Try.func55 rfl rfl ?_
 unfold f_impl_Cluster_send at hr
 have hS0 : St lo n0 H0 F0 := hS
 have hE0 := Ext.refl n0 F0
 have hlo0 := hS0.lo
 have lt0 := hS0.lt ho15
 refine wS (wR ?_)
 refine GL.box hS0 .nil (vc := [iv x18.Kind, iv x18.From, iv x18.To, iv x18.Term, iv x18.A, iv x18.B, iv x18.C, .bool x18.Ok, .slice a19 x18.Log.length cap20]) rfl rfl rfl rfl rfl bxP (fun H28 hS29 ho30 hk31 => ?_)
 have ho34 := oA hk31 ho15 lt0
 have h35 := OD.keep (n' := (n0 + 1)) h4 (by omega) (fun i hi => hk31 i (OD.id_lt h4 hi).2)
 have h36 := kA (n' := (n0 + 1)) h9 hk31
 have h37 := kA (n' := (n0 + 1)) h13 hk31
 have hlon01 := hS29.lo
 have lt33 : n0 < (n0 + 1) := by omega
 refine wN (eT (wS (wR (mN rfl (zN rfl (fN rfl U30 rfl info27 rfl (lN rfl U27 rfl ho34 rfl (WL.len .nil rfl rfl rfl U27 rfl (bN rfl rfl (wN (eT ?_)))))))))))
 refine W.condD rfl (fun hc38 => ?_) (fun hc38 => ?_)
 {
 replace hr := ite_pos hr hc38
 refine W.regionI (fun H => True) [0, 1, 2, 3, 4, 5, 6, 7, 8, 9, 10, 11] [(false, true, false), (false, false, false), (false, false, false), (false, false, false), (false, false, false), (false, false, false), (false, false, false), (false, false, false), (true, false, false), (false, false, false), (false, false, false), (true, false, true)] false rfl kr kr mP ?_
 refine WLI.late (v := pt p0 0) (fun h => by cases h) rfl rfl (fun H2 hI2 => .move (.inl rfl) rfl) ?_
 refine oP (mR rfl ?_)
 with_reducible refine WL.nil ⟨rfl, ?_⟩
 refine oP (zR rfl ?_)
 with_reducible refine WL.nil ⟨rfl, ?_⟩
 refine oP (fR rfl U30 rfl info27 rfl ?_)
 with_reducible refine WL.nil ⟨rfl, ?_⟩
 refine oP (lR rfl U27 rfl ho34 rfl ?_)
 with_reducible refine WL.nil ⟨rfl, ?_⟩
 refine oP (WL.loadN .r (l' := [iv x18.Kind, iv x18.From, iv x18.To, iv x18.Term, iv x18.A, iv x18.B, iv x18.C, .bool x18.Ok, .slice a19 x18.Log.length cap20]) rfl rfl rfl U85 rfl info85 rfl ho30 rfl rfl ?_)
 with_reducible refine WL.nil ⟨rfl, ?_⟩
 refine oP ?_
 obtain ⟨x40, hx40, hr⟩ := bnd_some hr
 refine GL.callP g.good .r rfl rfl rfl rfl rfl rfl Try.func64 rfl rfl (Nat.le_refl _) (f__impl_Msg_copied_k (x1 := (⟨x18.Kind, x18.From, x18.To, x18.Term, x18.A, x18.B, x18.C, x18.Ok, x18.Log⟩ : GMsg)) g hS29 h21 hx40) (fun v n41 H42 hn43 hk44 hp45 => ?_)
 obtain ⟨F50, a46, cap47, hX51, hS49, rfl, h48⟩ := hp45
 have ho52 := oA hk44 ho34 lt0
 have h54 := OD.keep (n' := n41) h35 (by omega) (fun i hi => hk44 i (OD.id_lt h35 hi).2)
 have h55 := kA (n' := n41) h36 hk44
 have h56 := kA (n' := n41) h37 hk44
 have hS57 : St lo n41 H42 F50 := ⟨by have := hS29.lo; omega, hS49.hb, hS49.fh⟩
 have fo58 := fA hX51 lt0 fo16
 have h60 := OD.keepF h54 hX51.sub (fun i hi => (hX51.eq i (by have := OD.id_lt h35 hi; omega)).trans (OD.fnone h54 hi))
 have h61 := OW.keepF h55 hX51.sub (fun i hi => (hX51.eq i (by have := OW.id_lt h36 hi; omega)).trans (OW.fnone h55 hi))
 have h62 := OW.keepF h56 hX51.sub (fun i hi => (hX51.eq i (by have := OW.id_lt h37 hi; omega)).trans (OW.fnone h56 hi))
 have hE63 := (hE0.up (n' := (n0 + 1)) (by omega)).trans hX51
 have hlon41 := hS57.lo
 with_reducible refine WL.nil ⟨rfl, ?_⟩
 refine oP ?_
 refine GL.lit (cs := [iv x40.Kind, iv x40.From, iv x40.To, iv x40.Term, iv x40.A, iv x40.B, iv x40.C, .bool x40.Ok, .slice a46 x40.Log.length cap47]) (xs := ([(⟨x40.Kind, x40.From, x40.To, x40.Term, x40.A, x40.B, x40.C, x40.Ok, x40.Log⟩ : GMsg)] : List GMsg)) hS57 .r rfl rfl rfl U27 info85 rfl rfl rfl (by decide) (by decide) rfl rfl rfl rfl rfl (RA.cons (cs := [iv x40.Kind, iv x40.From, iv x40.To, iv x40.Term, iv x40.A, iv x40.B, iv x40.C, .bool x40.Ok, .slice a46 x40.Log.length cap47]) (a := ((⟨x40.Kind, x40.From, x40.To, x40.Term, x40.A, x40.B, x40.C, x40.Ok, x40.Log⟩ : GMsg) : GMsg)) (GMsg.toR (x := (⟨x40.Kind, x40.From, x40.To, x40.Term, x40.A, x40.B, x40.C, x40.Ok, x40.Log⟩ : GMsg)) h48) RA.nil) rfl (fun H64 hS65 hO66 hk67 => ?_)
 have ho68 := oA hk67 ho52 lt0
 have h70 := OD.keep (n' := (n41 + 1)) h60 (by omega) (fun i hi => hk67 i (OD.id_lt h60 hi).2)
 have h71 := kA (n' := (n41 + 1)) h61 hk67
 have h72 := kA (n' := (n41 + 1)) h62 hk67
 have h73 := OW.lower (lo' := n0) hO66 (by omega)
 have hlon0 := hS65.lo
 with_reducible refine WL.nil ⟨rfl, ?_⟩
 refine oP ?_
 obtain ⟨hc80, hr⟩ := chk_some hr
 refine GL.append (α := GMsg) hS65 .w rfl rfl rfl U27 U27 rfl info85 rfl rfl rfl (by decide) rfl rfl h71 (by omega) (by omega) (OW.src h73) hc80 (fun a81 cap82 n83 H84 hS85 hn86 hO87 hk88 hid89 => ?_)
 have ho90 := (hk88 _ (by have := lt0; omega) ap23).trans ho68
 have h92 := OD.keep h70 hn86 (fun i hi => hk88 i (OD.id_lt h70 hi).2 (fun hj => ap24 _ hj hi))
 have h93 := OW.keep h72 hn86 (fun i hi => hk88 i (OW.id_lt h72 hi).2 (fun hj => (Ap.sym ap27) _ hj hi))
 have hlon83 := hS85.lo
 with_reducible refine WL.nil ⟨rfl, ?_⟩
 refine oP (zR rfl ?_)
 with_reducible refine WL.nil ⟨rfl, ?_⟩
 refine oP (fR rfl U30 rfl info27 rfl ?_)
 with_reducible refine WL.nil ⟨rfl, ?_⟩
 refine WLI.op (fun _ => trivial) ?_
 refine GL.store hS85 .w (vc := [.slice a81 (x1.Net ++ ([(⟨x40.Kind, x40.From, x40.To, x40.Term, x40.A, x40.B, x40.C, x40.Ok, x40.Log⟩ : GMsg)] : List GMsg)).length cap82]) (c' := [.slice a2 x1.Peers.length cap3, .slice a81 (x1.Net ++ ([(⟨x40.Kind, x40.From, x40.To, x40.Term, x40.A, x40.B, x40.C, x40.Ok, x40.Log⟩ : GMsg)] : List GMsg)).length cap82, .slice a11 x1.Chosen.length cap12, .bool x1.Conflict]) rfl rfl rfl info27 rfl rfl rfl rfl ho90 fo58 (bl rfl) lo17 (one1 rfl) rfl (fun H1 hS1 ho0 hk0 => ?_)
 have h0 := OD.keep h92 (Nat.le_refl _) (fun i hi => hk0 i (fun hj => ap22 (hj ▸ hi)))
 have h1 := kB h93 hk0 ap25
 have h2 := kB hO87 hk0 (Ap.new0 hid89 (by have := lt0; omega) ap23)
 with_reducible refine WL.nil ⟨rfl, ?_⟩
 refine WLI.nil (fun h => by cases h) ?_
 obtain rfl := Option.some.inj hr
 exact ⟨.inl rfl, _, .nil, ⟨F50, S6, a81, cap82, a11, cap12, (hE63.up (by omega)), hS1, ho0, rfl, h0, rfl, h2, h1, ap22, (Ap.new0 hid89 (by have := lt0; omega) ap23), ap25, (Ap.new hid89 (OD.hb h70) ap24), ap26, (Ap.sym (Ap.new hid89 (OW.hb h72) (Ap.sym ap27)))⟩⟩
 }
 {
 replace hr := ite_neg hr hc38
 refine wK ?_
 obtain rfl := Option.some.inj hr
 exact ⟨.inl rfl, _, .nil, ⟨F0, S6, a7, cap8, a11, cap12, (hE0.up (by omega)), hS29, ho34, rfl, h35, rfl, h36, h37, ap22, ap23, ap25, ap24, ap26, ap27⟩⟩
 }
theorem f_impl_Peer_term_k {Δ : Prims} (g : Env Try.prog Δ) {lo n0 : Nat} {H0 F0 : Heap} (hS : St lo n0 H0 F0) {p0 : Nat} {x1 : GPeer} {ez0 : Nat} {a2 : Option Addr} {cap3 : Nat} {a5 : Option Addr} {cap6 : Nat} {a8 : Option Addr} {cap9 : Nat} {a11 : Option Addr} {cap12 : Nat} {x17 : Int} (ho14 : H0 p0 = some (.row ez0 [.bool x1.Up, iv x1.Term, iv x1.Vote, iv x1.Commit, iv x1.Role, .slice a2 x1.Log.length cap3, .slice a5 x1.Votes.length cap6, .slice a8 x1.Next.length cap9, .slice a11 x1.Match.length cap12])) (fo15 : F0 p0 = none) (h4 : SR F0 (.slice a2 x1.Log.length cap3) x1.Log) (h7 : SR F0 (.slice a5 x1.Votes.length cap6) x1.Votes) (h10 : SR F0 (.slice a8 x1.Next.length cap9) x1.Next) (h13 : SR F0 (.slice a11 x1.Match.length cap12) x1.Match) {res : (Int)} (hr : f_impl_Peer_term x1 x17 = some res) :
    C Try.prog Δ n0 94 [pt p0 0, iv x17] n0 H0 (fun v n H => St n0 n H F0 ∧ v = iv res) := by
 refine C.body Try.func94 rfl rfl ?_
 unfold f_impl_Peer_term at hr
 have hS0 : St n0 n0 H0 F0 := hS.low (Nat.le_refl _)
 have hE0 := Ext.refl n0 F0
 have hlo0 := hS0.lo
 have lt0 := hS0.lt ho14
 refine wS (wR (aN rfl (wN (eT (wS (wS (wR (mN rfl (bN rfl rfl (wN (eT ?_)))))))))))
 refine W.condD rfl (fun hc19 => ?_) (fun hc19 => ?_)
 {
 replace hr := ite_pos hr hc19
 refine wS (wR (aN rfl (wN (eT (W.ret (eR ?_))))))
 obtain rfl := Option.some.inj hr
 exact ⟨.inr rfl, _, (.cons (.tmp rfl) .nil), ⟨(Ext.st hE0 hS0), rfl⟩⟩
 }
 {
 replace hr := ite_neg hr hc19
 refine wK (eT (wS (wR (mN rfl (zN rfl (fN rfl U42 rfl info28 rfl (lN rfl U28 rfl ho14 rfl (mN rfl ?_))))))))
 obtain ⟨hc20, hr⟩ := chk_some hr
 refine WL.subI .nil rfl rfl rfl rfl rfl hc20.1 hc20.2 ?_
 obtain ⟨x21, hx21, hr⟩ := bnd_some hr
 refine GL.index .nil rfl rfl rfl U28 info35 rfl rfl h4 hS0.fh rfl hx21 (fun b22 kp23 c24 ecs25 hrow26 hwin27 hR28 => ?_)
 obtain ⟨a29, cap30, rfl, h31⟩ := GRec.ofR hR28
 refine fN rfl U35 rfl info3 rfl (lN rfl U3 rfl hrow26 ((win_get0 hwin27 (show (0 : Nat) < 3 by decide)).trans rfl) (aN rfl (wN (eT (W.ret ?_)))))
 obtain rfl := Option.some.inj hr
 exact ⟨.inr rfl, _, (.cons (.tmp rfl) .nil), ⟨(Ext.st hE0 hS0), rfl⟩⟩
 }
theorem f_impl_Peer_term_elem0_k {Δ : Prims} (g : Env Try.prog Δ) {lo n0 : Nat} {H0 F0 : Heap} (hS : St lo n0 H0 F0) {b0 el0 ez0 : Nat} {xc0 : List Value} {x1 : GPeer} {lw0 : Nat} {a2 : Option Addr} {cap3 : Nat} {a6 : Option Addr} {cap7 : Nat} {a8 : Option Addr} {cap9 : Nat} {a10 : Option Addr} {cap11 : Nat} {x14 : Int} (hrow12 : H0 b0 = some (.row ez0 xc0)) (hwin13 : (xc0.drop el0).take 9 = [.bool x1.Up, iv x1.Term, iv x1.Vote, iv x1.Commit, iv x1.Role, .slice a2 x1.Log.length cap3, .slice a6 x1.Votes.length cap7, .slice a8 x1.Next.length cap9, .slice a10 x1.Match.length cap11]) (h5 : Ow lw0 n0 H0 F0 a2 cap3 x1.Log) {res : (Int)} (hr : f_impl_Peer_term_elem0 x1 x14 = some res) :
    C Try.prog Δ n0 94 [pt b0 el0, iv x14] n0 H0 (fun v n H => St n0 n H F0 ∧ v = iv res) := by
 refine C.body Try.func94 rfl rfl ?_
 unfold f_impl_Peer_term_elem0 at hr
 have hS0 : St n0 n0 H0 F0 := hS.low (Nat.le_refl _)
 have hE0 := Ext.refl n0 F0
 have hlo0 := hS0.lo
 refine wS (wR (aN rfl (wN (eT (wS (wS (wR (mN rfl (bN rfl rfl (wN (eT ?_)))))))))))
 refine W.condD rfl (fun hc16 => ?_) (fun hc16 => ?_)
 {
 replace hr := ite_pos hr hc16
 refine wS (wR (aN rfl (wN (eT (W.ret (eR ?_))))))
 obtain rfl := Option.some.inj hr
 exact ⟨.inr rfl, _, (.cons (.tmp rfl) .nil), ⟨(Ext.st hE0 hS0), rfl⟩⟩
 }
 {
 replace hr := ite_neg hr hc16
 refine wK (eT (wS (wR (mN rfl (zN rfl (fN rfl U42 rfl info28 rfl (lN rfl U28 rfl hrow12 (wG 5 hwin13) (mN rfl ?_))))))))
 obtain ⟨hc17, hr⟩ := chk_some hr
 refine WL.subI .nil rfl rfl rfl rfl rfl hc17.1 hc17.2 ?_
 obtain ⟨x18, hx18, hr⟩ := bnd_some hr
 refine GL.indexO .nil rfl rfl rfl U28 info35 rfl rfl h5 rfl hx18 (fun b19 kp20 c21 ecs22 hid26 hrow23 hwin24 hR25 hup27 => ?_)
 obtain ⟨a28, cap29, rfl, h30⟩ := GRec.ofR hR25
 refine fN rfl U35 rfl info3 rfl (lN rfl U3 rfl hrow23 ((win_get0 hwin24 (show (0 : Nat) < 3 by decide)).trans rfl) (aN rfl (wN (eT (W.ret ?_)))))
 obtain rfl := Option.some.inj hr
 exact ⟨.inr rfl, _, (.cons (.tmp rfl) .nil), ⟨(Ext.st hE0 hS0), rfl⟩⟩
 }
theorem f_impl_Peer_last_elem0_k {Δ : Prims} (g : Env Try.prog Δ) {lo n0 : Nat} {H0 F0 : Heap} (hS : St lo n0 H0 F0) {b0 el0 ez0 : Nat} {xc0 : List Value} {x1 : GPeer} {lw0 : Nat} {a2 : Option Addr} {cap3 : Nat} {a6 : Option Addr} {cap7 : Nat} {a8 : Option Addr} {cap9 : Nat} {a10 : Option Addr} {cap11 : Nat} (hrow12 : H0 b0 = some (.row ez0 xc0)) (hwin13 : (xc0.drop el0).take 9 = [.bool x1.Up, iv x1.Term, iv x1.Vote, iv x1.Commit, iv x1.Role, .slice a2 x1.Log.length cap3, .slice a6 x1.Votes.length cap7, .slice a8 x1.Next.length cap9, .slice a10 x1.Match.length cap11]) (h5 : Ow lw0 n0 H0 F0 a2 cap3 x1.Log) {res : (Int × Int)} (hr : f_impl_Peer_last_elem0 x1 = some res) :
    C Try.prog Δ n0 86 [pt b0 el0] n0 H0 (fun v n H => St n0 n H F0 ∧ v = .tuple #[iv res.1, iv res.2]) := by
 refine C.body Try.func86 rfl rfl ?_
 unfold f_impl_Peer_last_elem0 at hr
 have hS0 : St n0 n0 H0 F0 := hS.low (Nat.le_refl _)
 have hE0 := Ext.refl n0 F0
 have hlo0 := hS0.lo
 refine wS (wR (aN rfl (aN rfl (wN (eT (wS ?_))))))
 refine W.regionD r14 f14 rfl rfl kr kr mP ?_
 refine mR rfl (zR rfl (fR rfl U42 rfl info28 rfl (lR rfl U28 rfl hrow12 (wG 5 hwin13) (WL.len .r rfl rfl rfl U28 rfl (mR rfl (mR rfl (zR rfl (fR rfl U42 rfl info28 rfl (lR rfl U28 rfl hrow12 (wG 5 hwin13) (WL.len .r rfl rfl rfl U28 rfl ?_))))))))))
 obtain ⟨x14, hx14, hr⟩ := bnd_some hr
 refine GL.callP g.good .r rfl rfl rfl rfl rfl rfl Try.func94 rfl rfl (Nat.le_refl _) (f_impl_Peer_term_elem0_k  g hS0 hrow12 hwin13 h5 hx14) (fun v n15 H16 hn17 hk18 hp19 => ?_)
 obtain ⟨hS20, rfl⟩ := hp19
 have hS22 : St n0 n15 H16 F0 := ⟨by have := hS0.lo; omega, hS20.hb, hS20.fh⟩
 have hlon15 := hS22.lo
 refine aR rfl (aR rfl (wN (eT (W.ret ?_))))
 obtain rfl := Option.some.inj hr
 exact ⟨.inr rfl, _, (.cons (.tmp rfl) (.cons (.tmp rfl) .nil)), ⟨(Ext.st hE0 hS22), rfl⟩⟩
theorem f_impl_most_k {Δ : Prims} (g : Env Try.prog Δ) {lo n0 : Nat} {H0 F0 : Heap} (hS : St lo n0 H0 F0) {x1 : Int} {res : (Int)} (hr : f_impl_most x1 = some res) :
    C Try.prog Δ n0 34 [iv x1] n0 H0 (fun v n H => St n0 n H F0 ∧ v = iv res) := by
 refine C.body Try.func34 rfl rfl ?_
 unfold f_impl_most at hr
 have hS0 : St n0 n0 H0 F0 := hS.low (Nat.le_refl _)
 have hE0 := Ext.refl n0 F0
 have hlo0 := hS0.lo
 refine wS (wR (aN rfl (wN (eT (wS (wR (mN rfl ?_)))))))
 obtain ⟨hc2, hr⟩ := chk_some hr
 refine WL.quoI .nil rfl rfl rfl rfl rfl hc2.1 hc2.2.1 hc2.2.2 ?_
 obtain ⟨hc3, hr⟩ := chk_some hr
 refine WL.addI .nil rfl rfl rfl rfl rfl hc3.1 hc3.2 (aN rfl (wN (eT (W.ret ?_))))
 obtain rfl := Option.some.inj hr
 exact ⟨.inr rfl, _, (.cons (.tmp rfl) .nil), ⟨(Ext.st hE0 hS0), rfl⟩⟩
theorem f_slices_Equal_byte_k {Δ : Prims} (g : Env Try.prog Δ) {lo n0 : Nat} {H0 F0 : Heap} (hS : St lo n0 H0 F0) {a2 : Option Addr} {cap3 : Nat} {xs1 : (List UInt8)} {a6 : Option Addr} {cap7 : Nat} {xs5 : (List UInt8)} (h4 : SR F0 (.slice a2 xs1.length cap3) xs1) (h8 : SR F0 (.slice a6 xs5.length cap7) xs5) {res : (Bool)} (hr : f_slices_Equal_byte xs1 xs5 = some res) :
    C Try.prog Δ n0 75 [.slice a2 xs1.length cap3, .slice a6 xs5.length cap7] n0 H0 (fun v n H => St n0 n H F0 ∧ v = .bool res) := by
 refine C.body Try.func75 rfl rfl ?_
 unfold f_slices_Equal_byte at hr
 have hS0 : St n0 n0 H0 F0 := hS.low (Nat.le_refl _)
 have hE0 := Ext.refl n0 F0
 have hlo0 := hS0.lo
 refine wS (wR (aN rfl (wN (eT (wS (wS (wR (mN rfl (WL.len .nil rfl rfl rfl U22 rfl (mN rfl (WL.len .nil rfl rfl rfl U22 rfl ?_)))))))))))
 refine bN rfl rfl (wN (eT ?_))
 refine W.condN rfl (fun hc10 => ?_) (fun hc10 => ?_)
 {
 replace hr := ite_neg hr hc10
 refine wS (wR (aN rfl (wN (eT (W.ret (eR ?_))))))
 obtain rfl := Option.some.inj hr
 exact ⟨.inr rfl, _, (.cons (.tmp rfl) .nil), ⟨(Ext.st hE0 hS0), rfl⟩⟩
 }
 {
 replace hr := ite_pos hr hc10
 refine wK (eT (wS (wS (wR (mN rfl (WL.len .nil rfl rfl rfl U22 rfl (mN rfl (wN (eT (W.block ?_))))))))))
 refine W.loopF (fun k0 fr n H => ∃ (x0 : Int) (F : Heap), fr = [(0, .slice a2 xs1.length cap3), (1, .slice a6 xs5.length cap7), (12, iv (xs1.length : Int)), (13, iv x0)] ∧ St n0 n H F ∧ Ext n0 F0 n F ∧ SR F (.slice a2 xs1.length cap3) xs1 ∧ SR F (.slice a6 xs5.length cap7) xs5 ∧ f_slices_Equal_byte_L0 xs1 xs5 k0 x0 = some res) BIG (fr0 := [(0, .slice a2 xs1.length cap3), (1, .slice a6 xs5.length cap7), (12, iv (xs1.length : Int)), (13, iv 0)]) (fl4) ?_ ?_ ?_
 {
 exact ⟨0, F0, rfl, hS0, hE0, h4, h8, hr⟩
 }
 {
 intro fr n H hI
 obtain ⟨x0, F1, hfr, hS1, hE1, h0, h1, hr⟩ := hI
 rw [f_slices_Equal_byte_L0] at hr
 cases hr
 }
 {
 intro k0 _ n1 H1 hI
 obtain ⟨x0, F1, rfl, hS1, hE1, h0, h1, hr⟩ := hI
 have hlen0 := hE1.le
 have hlon0 := hS1.lo
 rw [f_slices_Equal_byte_L0] at hr
 refine wS (wR (bN rfl rfl (wN (eT (wS ?_)))))
 refine W.condD rfl (fun hc0 => ?_) (fun hc0 => ?_)
 {
 replace hr := ite_pos hr hc0
 refine wK (eT (wS (W.block (wS (wR (mN rfl (aN rfl (wN (eT (wS ?_))))))))))
 refine W.regionD r9 f9 rfl rfl kr kr mP ?_
 refine mR rfl (mR rfl ?_)
 obtain ⟨x1, hx0, hr⟩ := bnd_some hr
 refine GL.index .r rfl rfl rfl U22 info5 rfl rfl h0 hS1.fh rfl hx0 (fun b0 kp0 c0 ecs0 hrow0 hwin0 hR0 => ?_)
 have hcs : _ = ([u8 x1] : List Value) := hR0
 subst hcs
 refine lR rfl U5 rfl hrow0 ((win_get0 hwin0 (show (0 : Nat) < 1 by decide)).trans rfl) (mR rfl (mR rfl ?_))
 obtain ⟨x2, hx1, hr⟩ := bnd_some hr
 refine GL.index .r rfl rfl rfl U22 info5 rfl rfl h1 hS1.fh rfl hx1 (fun b1 kp1 c1 ecs1 hrow1 hwin1 hR1 => ?_)
 have hcs : _ = ([u8 x2] : List Value) := hR1
 subst hcs
 refine lR rfl U5 rfl hrow1 ((win_get0 hwin1 (show (0 : Nat) < 1 by decide)).trans rfl) (bR rfl rfl (wN (eT ?_)))
 refine W.condN rfl (fun hc1 => ?_) (fun hc1 => ?_)
 {
 replace hr := ite_neg hr hc1
 refine wS (wR (aN rfl (wN (eT (W.ret (Ex.blk_ret (eR (eR (Ex.blk_ret (eR ?_))))))))))
 obtain rfl := Option.some.inj hr
 exact ⟨.inr rfl, _, (.cons (.tmp rfl) .nil), ⟨(Ext.st hE1 hS1), rfl⟩⟩
 }
 {
 replace hr := ite_pos hr hc1
 refine wK (eB (eT (wR ?_)))
 obtain ⟨hc2, hr⟩ := chk_some hr
 refine WL.addI .nil rfl rfl rfl rfl rfl hc2.1 hc2.2 (mN rfl (wN (eT ?_)))
 exact ⟨[(0, .slice a2 xs1.length cap3), (1, .slice a6 xs5.length cap7), (12, iv (xs1.length : Int)), (13, iv (x0 + 1))], (fl4), (x0 + 1), F1, rfl, hS1, hE1, h0, h1, hr⟩
 }
 }
 {
 replace hr := ite_neg hr hc0
 refine W.exit (eX (eX (eH (eT (wS (wR (aN rfl (wN (eT (W.ret ?_))))))))))
 obtain rfl := Option.some.inj hr
 exact ⟨.inr rfl, _, (.cons (.tmp rfl) .nil), ⟨(Ext.st hE1 hS1), rfl⟩⟩
 }
 }
 }
theorem f_impl_sameRec_k {Δ : Prims} (g : Env Try.prog Δ) {lo n0 : Nat} {H0 F0 : Heap} (hS : St lo n0 H0 F0) {x1 : GRec} {a2 : Option Addr} {cap3 : Nat} {x5 : GRec} {a6 : Option Addr} {cap7 : Nat} (h4 : SR F0 (.slice a2 x1.Data.length cap3) x1.Data) (h8 : SR F0 (.slice a6 x5.Data.length cap7) x5.Data) {res : (Bool)} (hr : f_impl_sameRec x1 x5 = some res) :
    C Try.prog Δ n0 41 [.agg [iv x1.Term, iv x1.Index, .slice a2 x1.Data.length cap3].toArray, .agg [iv x5.Term, iv x5.Index, .slice a6 x5.Data.length cap7].toArray] n0 H0 (fun v n H => St n0 n H F0 ∧ v = .bool res) := by
 refine C.body Try.func41 rfl rfl ?_
 unfold f_impl_sameRec at hr
 have hS0 : St n0 n0 H0 F0 := hS.low (Nat.le_refl _)
 have hE0 := Ext.refl n0 F0
 have hlo0 := hS0.lo
 refine wS (wR ?_)
 refine GL.box hS0 .nil (vc := [iv x1.Term, iv x1.Index, .slice a2 x1.Data.length cap3]) rfl rfl rfl rfl rfl bxP (fun H9 hS10 ho11 hk12 => ?_)
 have hlon01 := hS10.lo
 have lt14 : n0 < (n0 + 1) := by omega
 refine GL.box hS10 .nil (vc := [iv x5.Term, iv x5.Index, .slice a6 x5.Data.length cap7]) rfl rfl rfl rfl rfl bxP (fun H15 hS16 ho17 hk18 => ?_)
 have ho21 := oA hk18 ho11 lt14
 have hlon0 := hS16.lo
 have lt20 : (n0 + 1) < ((n0 + 1) + 1) := by omega
 refine aN rfl (wN (eT (wS (wR (fN rfl U35 rfl info3 rfl (lN rfl U3 rfl ho21 rfl (fN rfl U35 rfl info3 rfl (lN rfl U3 rfl ho17 rfl (bN rfl rfl (mN rfl ?_))))))))))
 refine WL.guardD rfl rfl rfl (fun hg22 => ?_) (fun hg22 => ?_)
 {
 replace hr := ite_pos hr hg22
 refine fN rfl U35 rfl info3 rfl (lN rfl U3 rfl ho21 rfl (fN rfl U35 rfl info3 rfl (lN rfl U3 rfl ho17 rfl (bN rfl rfl (WL.pick .nil rfl rfl rfl rfl rfl (mN rfl ?_))))))
 refine WL.guardD rfl rfl rfl (fun hg23 => ?_) (fun hg23 => ?_)
 {
 replace hr := ite_pos hr hg23
 refine fN rfl U35 rfl info22 rfl (lN rfl U22 rfl ho21 rfl (fN rfl U35 rfl info22 rfl (lN rfl U22 rfl ho17 rfl ?_)))
 obtain ⟨x24, hx24, hr⟩ := bnd_some hr
 refine GL.callP g.good .nil rfl rfl rfl rfl rfl rfl Try.func75 rfl rfl hS16.lo (f_slices_Equal_byte_k  g hS16 h4 h8 hx24) (fun v n25 H26 hn27 hk28 hp29 => ?_)
 obtain ⟨hS30, rfl⟩ := hp29
 have hS33 : St n0 n25 H26 F0 := ⟨by have := hS16.lo; omega, hS30.hb, hS30.fh⟩
 have hlon25 := hS33.lo
 refine WL.pick .nil rfl rfl rfl rfl rfl (aN rfl (wN (eT (W.ret ?_))))
 obtain rfl := Option.some.inj hr
 exact ⟨.inr rfl, _, (.cons (.tmp rfl) .nil), ⟨(Ext.st hE0 hS33), rfl⟩⟩
 }
 {
 replace hr := ite_neg hr hg23
 refine kN rfl (kN rfl (kN rfl (kN rfl (kN rfl (WL.pick .nil rfl rfl rfl rfl rfl (aN rfl (wN (eT (W.ret ?_)))))))))
 obtain rfl := Option.some.inj hr
 exact ⟨.inr rfl, _, (.cons (.tmp rfl) .nil), ⟨(Ext.st hE0 hS16), rfl⟩⟩
 }
 }
 {
 replace hr := ite_neg hr hg22
 refine kN rfl (kN rfl (kN rfl (kN rfl (kN rfl (WL.pick .nil rfl rfl rfl rfl rfl (mN rfl (kN rfl (kN rfl (kN rfl (kN rfl (kN rfl ?_)))))))))))
 refine WL.pick .nil rfl rfl rfl rfl rfl (aN rfl (wN (eT (W.ret ?_))))
 obtain rfl := Option.some.inj hr
 exact ⟨.inr rfl, _, (.cons (.tmp rfl) .nil), ⟨(Ext.st hE0 hS16), rfl⟩⟩
 }
theorem f_impl_Cluster_choose_k {Δ : Prims} (g : Env Try.prog Δ) {lo n0 : Nat} {H0 F0 : Heap} (hS : St lo n0 H0 F0) {p0 : Nat} {x1 : GCluster} {ez0 : Nat} {a2 : Option Addr} {cap3 : Nat} {S6 : Nat → Prop} {a7 : Option Addr} {cap8 : Nat} {a11 : Option Addr} {cap12 : Nat} {x18 : Int} (ho15 : H0 p0 = some (.row ez0 [.slice a2 x1.Peers.length cap3, .slice a7 x1.Net.length cap8, .slice a11 x1.Chosen.length cap12, .bool x1.Conflict])) (fo16 : F0 p0 = none) (lo17 : lo ≤ p0) (h4 : OD lo n0 H0 F0 S6 [] (.slice a2 x1.Peers.length cap3) x1.Peers) (h9 : Ow lo n0 H0 F0 a7 cap8 x1.Net) (h13 : Ow lo n0 H0 F0 a11 cap12 x1.Chosen) (ap19 : ¬ S6 p0) (ap20 : nP (.slice a7 x1.Net.length cap8) p0) (ap21 : nS (.slice a7 x1.Net.length cap8) S6) (ap22 : nP (.slice a11 x1.Chosen.length cap12) p0) (ap23 : nS (.slice a11 x1.Chosen.length cap12) S6) (ap24 : nA (.slice a11 x1.Chosen.length cap12) (.slice a7 x1.Net.length cap8)) {res : (GCluster)} (hr : f_impl_Cluster_choose x1 x18 = some res) :
    C Try.prog Δ lo 95 [pt p0 0, iv x18] n0 H0 (fun v n H => ∃ (F : Heap) (rS2 : Nat → Prop) (ra4 : OA) (rcap5 : Nat) (ra7 : OA) (rcap8 : Nat), Ext n0 F0 n F ∧ St lo n H F ∧ H p0 = some (.row ez0 [.slice a2 x1.Peers.length cap3, .slice ra4 res.Net.length rcap5, .slice ra7 res.Chosen.length rcap8, .bool res.Conflict]) ∧ v = .tuple #[] ∧ OD lo n H F rS2 [] (.slice a2 x1.Peers.length cap3) res.Peers ∧ x1.Peers.length = res.Peers.length ∧ Ow lo n H F ra4 rcap5 res.Net ∧ Ow lo n H F ra7 rcap8 res.Chosen ∧ ¬ rS2 p0 ∧ nP (.slice ra4 res.Net.length rcap5) p0 ∧ nP (.slice ra7 res.Chosen.length rcap8) p0 ∧ nS (.slice ra4 res.Net.length rcap5) rS2 ∧ nS (.slice ra7 res.Chosen.length rcap8) rS2 ∧ nA (.slice ra7 res.Chosen.length rcap8) (.slice ra4 res.Net.length rcap5)) := by
 refine C.body Try.func95 rfl rfl ?_
 unfold f_impl_Cluster_choose at hr
 have hS0 : St lo n0 H0 F0 := hS
 have hE0 := Ext.refl n0 F0
 have hlo0 := hS0.lo
 have lt0 := hS0.lt ho15
 refine wS (wR (mN rfl (zN rfl (fN rfl U30 rfl info26 rfl (lN rfl U26 rfl ho15 rfl (mN rfl ?_))))))
 obtain ⟨x25, hx25, hr⟩ := bnd_some hr
 refine GL.indexD .nil rfl rfl rfl U26 info42 rfl rfl h4 rfl hx25 (fun b26 el27 hp28 => ?_)
 refine aN rfl (wN (eT (wS ?_)))
 refine W.regionD r11 f11 rfl rfl kr kr mP ?_
 refine mR rfl (zR rfl (fR rfl U42 rfl info28 rfl ?_))
 obtain ⟨c29, ecs30, hrow31, hwin32, hb33⟩ := OD.get h4 hp28 hx25
 obtain ⟨a34, cap35, a36, cap37, a38, cap39, a40, cap41, rfl⟩ := GPeer.ofB hb33
 obtain ⟨S42, hs43, hs44, hs45, h46, h47⟩ := GPeer.open_Log h4 hp28 hx25 hrow31 hwin32 (List.forall_mem_nil _)
 refine lR rfl U28 rfl hrow31 (wG 5 hwin32) (mR rfl (zR rfl (fR rfl U42 rfl info3 rfl (lR rfl U3 rfl hrow31 (wG 3 hwin32) ?_))))
 obtain ⟨xs49, hxs49, hr⟩ := bnd_some hr
 refine GL.sliceO .r rfl rfl rfl U28 info35 rfl rfl h46 rfl ⟨_, rfl⟩ hxs49 (fun a50 cap51 hid52 h53 => ?_)
 refine WL.len .r rfl rfl rfl U28 rfl (mR rfl (wN (eT (W.block ?_))))
 refine W.loopF (fun k0 fr n H => ∃ (x0 : Int) (S0 : Nat → Prop) (a0 : OA) (cap0 : Nat) (xs0 : (List GRec)) (x2 : Bool) (F : Heap), fr = [(0, pt p0 0), (21, .slice a50 xs49.length cap51), (22, iv (xs49.length : Int)), (23, iv x0)] ∧ St lo n H F ∧ Ext n0 F0 n F ∧ H p0 = some (.row ez0 [.slice a2 x1.Peers.length cap3, .slice a7 x1.Net.length cap8, .slice a0 xs0.length cap0, .bool x2]) ∧ F p0 = none ∧ Ow lo n H F a50 cap51 xs49 ∧ Ow lo n H F a34 cap35 x25.Log ∧ OD lo n H F S0 [((x18).toNat, 5, .slice a34 x25.Log.length cap35)] (.slice a2 x1.Peers.length cap3) x1.Peers ∧ Ow lo n H F a7 cap8 x1.Net ∧ Ow lo n H F a0 cap0 xs0 ∧ nP (.slice a50 xs49.length cap51) p0 ∧ nP (.slice a34 x25.Log.length cap35) p0 ∧ ¬ S0 p0 ∧ Sn S0 (.slice a50 xs49.length cap51) ∧ Sn S0 (.slice a34 x25.Log.length cap35) ∧ nP (.slice a7 x1.Net.length cap8) p0 ∧ nA (.slice a7 x1.Net.length cap8) (.slice a50 xs49.length cap51) ∧ nA (.slice a7 x1.Net.length cap8) (.slice a34 x25.Log.length cap35) ∧ nS (.slice a7 x1.Net.length cap8) S0 ∧ nP (.slice a0 xs0.length cap0) p0 ∧ nA (.slice a0 xs0.length cap0) (.slice a50 xs49.length cap51) ∧ nA (.slice a0 xs0.length cap0) (.slice a34 x25.Log.length cap35) ∧ nS (.slice a0 xs0.length cap0) S0 ∧ nA (.slice a0 xs0.length cap0) (.slice a7 x1.Net.length cap8) ∧ f_impl_Cluster_choose_L0 xs49 x1 k0 x0 xs0 x2 = some res) BIG (fr0 := [(0, pt p0 0), (21, .slice a50 xs49.length cap51), (22, iv (xs49.length : Int)), (23, iv 0)]) (fl4) ?_ ?_ ?_
 {
 exact ⟨0, S42, a11, cap12, x1.Chosen, x1.Conflict, F0, rfl, hS0, hE0, ho15, fo16, h53, h46, h47, h9, h13, (Ap.sub0 hid52 (Ap.sub0 hs44 ap19)), (Ap.sub0 hs44 ap19), (Ap.sub0 hs43 ap19), (Ap.sym (Ap.sub hid52 hs45)), (Ap.sym hs45), ap20, (Ap.sym (Ap.sub hid52 (Ap.sub hs44 (Ap.sym ap21)))), (Ap.sym (Ap.sub hs44 (Ap.sym ap21))), (Ap.sym (Ap.sub hs43 (Ap.sym ap21))), ap22, (Ap.sym (Ap.sub hid52 (Ap.sub hs44 (Ap.sym ap23)))), (Ap.sym (Ap.sub hs44 (Ap.sym ap23))), (Ap.sym (Ap.sub hs43 (Ap.sym ap23))), ap24, hr⟩
 }
 {
 intro fr n H hI
 obtain ⟨x0, S0, a0, cap0, xs0, x2, F1, hfr, hS1, hE1, ho0, fo0, h0, h1, h2, h3, h5, ap0, ap1, ap2, ap3, ap4, ap5, ap6, ap7, ap8, ap9, ap10, ap11, ap12, ap13, hr⟩ := hI
 rw [f_impl_Cluster_choose_L0] at hr
 cases hr
 }
 {
 intro k0 _ n1 H1 hI
 obtain ⟨x0, S0, a0, cap0, xs0, x2, F1, rfl, hS1, hE1, ho0, fo0, h0, h1, h2, h3, h5, ap0, ap1, ap2, ap3, ap4, ap5, ap6, ap7, ap8, ap9, ap10, ap11, ap12, ap13, hr⟩ := hI
 have lt1 := hS1.lt ho0
 have hlen0 := hE1.le
 have hlon0 := hS1.lo
 rw [f_impl_Cluster_choose_L0] at hr
 refine wS (wR (bN rfl rfl (wN (eT (wS ?_)))))
 refine W.condD rfl (fun hc0 => ?_) (fun hc0 => ?_)
 {
 replace hr := ite_pos hr hc0
 refine wK (eT (wS ?_))
 refine W.cut (fun fr n H => ∃ (S1 : Nat → Prop) (a1 : OA) (cap1 : Nat) (xs1 : (List GRec)) (x3 : Bool) (F : Heap), fr = [(0, pt p0 0), (21, .slice a50 xs49.length cap51), (22, iv (xs49.length : Int)), (23, iv x0)] ∧ St lo n H F ∧ Ext n0 F0 n F ∧ H p0 = some (.row ez0 [.slice a2 x1.Peers.length cap3, .slice a7 x1.Net.length cap8, .slice a1 xs1.length cap1, .bool x3]) ∧ F p0 = none ∧ Ow lo n H F a50 cap51 xs49 ∧ Ow lo n H F a34 cap35 x25.Log ∧ OD lo n H F S1 [((x18).toNat, 5, .slice a34 x25.Log.length cap35)] (.slice a2 x1.Peers.length cap3) x1.Peers ∧ Ow lo n H F a7 cap8 x1.Net ∧ Ow lo n H F a1 cap1 xs1 ∧ nP (.slice a50 xs49.length cap51) p0 ∧ nP (.slice a34 x25.Log.length cap35) p0 ∧ ¬ S1 p0 ∧ Sn S1 (.slice a50 xs49.length cap51) ∧ Sn S1 (.slice a34 x25.Log.length cap35) ∧ nP (.slice a7 x1.Net.length cap8) p0 ∧ nA (.slice a7 x1.Net.length cap8) (.slice a50 xs49.length cap51) ∧ nA (.slice a7 x1.Net.length cap8) (.slice a34 x25.Log.length cap35) ∧ nS (.slice a7 x1.Net.length cap8) S1 ∧ nP (.slice a1 xs1.length cap1) p0 ∧ nA (.slice a1 xs1.length cap1) (.slice a50 xs49.length cap51) ∧ nA (.slice a1 xs1.length cap1) (.slice a34 x25.Log.length cap35) ∧ nS (.slice a1 xs1.length cap1) S1 ∧ nA (.slice a1 xs1.length cap1) (.slice a7 x1.Net.length cap8) ∧ f_impl_Cluster_choose_J1 x0 (f_impl_Cluster_choose_L0 xs49 x1 k0) xs1 x3 = some res) ?_ ?_
 {
 refine W.block (wS (wR (mN rfl ?_)))
 obtain ⟨x4, hx0, hr⟩ := bnd_some hr
 refine GL.indexO .nil rfl rfl rfl U28 info35 rfl rfl h0 rfl hx0 (fun b0 kp0 c0 ecs0 hid0 hrow0 hwin0 hR0 hup0 => ?_)
 obtain ⟨a3, cap2, rfl, h6⟩ := GRec.ofR hR0
 refine WL.loadN .nil (l' := [iv x4.Term, iv x4.Index, .slice a3 x4.Data.length cap2]) rfl rfl rfl U35 rfl info35 rfl hrow0 hwin0 rfl ?_
 refine GL.alloc hS1 .nil (zc := [iv 0, iv 0, .slice none 0 0]) rfl rfl rfl info35 rfl rfl rfl (fun H3 hS2 ho1 hk0 => ?_)
 have fo1 := hS1.fnone (Nat.le_refl _)
 have ho2 := oA hk0 ho0 lt1
 have h7 := kA (n' := (n1 + 1)) h0 hk0
 have h8 := kA (n' := (n1 + 1)) h1 hk0
 have h10 := OD.keep (n' := (n1 + 1)) h2 (by omega) (fun i hi => hk0 i (OD.id_lt h2 hi).2)
 have h11 := kA (n' := (n1 + 1)) h3 hk0
 have h12 := kA (n' := (n1 + 1)) h5 hk0
 have hlon1 := hS2.lo
 have lt2 : n1 < (n1 + 1) := by omega
 refine aN rfl ?_
 refine GL.store hS2 .nil (vc := [iv x4.Term, iv x4.Index, .slice a3 x4.Data.length cap2]) (c' := [iv x4.Term, iv x4.Index, .slice a3 x4.Data.length cap2]) rfl rfl rfl info35 rfl rfl rfl rfl ho1 fo1 (bl rfl) (by omega) bxP rfl (fun H4 hS3 ho3 hk1 => ?_)
 have ho4 := (hk1 _ (by omega)).trans ho2
 have h14 := kB h7 hk1 (aW h0)
 have h15 := kB h8 hk1 (aW h1)
 have h16 := OD.keep h10 (Nat.le_refl _) (fun i hi => hk1 i (fun hj => (aD h2) (hj ▸ hi)))
 have h17 := kB h11 hk1 (aW h3)
 have h18 := kB h12 hk1 (aW h5)
 refine wN (eT (W.block (wS (wR (mN rfl (mN rfl (zN rfl (fN rfl U30 rfl info28 rfl (lN rfl U28 rfl ho4 rfl (WL.len .nil rfl rfl rfl U28 rfl (bN rfl rfl ?_)))))))))))
 refine aN rfl (wN (eT ?_))
 refine W.condD rfl (fun hc1 => ?_) (fun hc1 => ?_)
 {
 replace hr := ite_pos hr hc1
 refine W.regionI (fun H => True) [0, 1, 2, 3, 4, 5, 6, 7, 8, 9, 10] [(false, true, false), (false, false, false), (false, false, false), (false, false, false), (false, false, false), (false, false, false), (false, false, false), (true, false, false), (false, false, false), (false, false, false), (true, false, true)] false rfl kr kr mP ?_
 refine WLI.late (v := pt p0 0) (fun h => by cases h) rfl rfl (fun H2 hI2 => .move (.inl rfl) rfl) ?_
 refine oP (mR rfl ?_)
 with_reducible refine WL.nil ⟨rfl, ?_⟩
 refine oP (zR rfl ?_)
 with_reducible refine WL.nil ⟨rfl, ?_⟩
 refine oP (fR rfl U30 rfl info28 rfl ?_)
 with_reducible refine WL.nil ⟨rfl, ?_⟩
 refine oP (lR rfl U28 rfl ho4 rfl ?_)
 with_reducible refine WL.nil ⟨rfl, ?_⟩
 refine oP (WL.loadN .r (l' := [iv x4.Term, iv x4.Index, .slice a3 x4.Data.length cap2]) rfl rfl rfl U35 rfl info35 rfl ho3 rfl rfl ?_)
 with_reducible refine WL.nil ⟨rfl, ?_⟩
 refine oP ?_
 refine GL.lit (cs := [iv x4.Term, iv x4.Index, .slice a3 x4.Data.length cap2]) (xs := ([(⟨x4.Term, x4.Index, x4.Data⟩ : GRec)] : List GRec)) hS3 .r rfl rfl rfl U28 info35 rfl rfl rfl (by decide) (by decide) rfl rfl rfl rfl rfl (RA.cons (cs := [iv x4.Term, iv x4.Index, .slice a3 x4.Data.length cap2]) (a := ((⟨x4.Term, x4.Index, x4.Data⟩ : GRec) : GRec)) (GRec.toR (x := (⟨x4.Term, x4.Index, x4.Data⟩ : GRec)) h6) RA.nil) rfl (fun H5 hS4 hO0 hk2 => ?_)
 have ho5 := oA hk2 ho4 lt1
 have h19 := kA (n' := ((n1 + 1) + 1)) h14 hk2
 have h20 := kA (n' := ((n1 + 1) + 1)) h15 hk2
 have h21 := OD.keep (n' := ((n1 + 1) + 1)) h16 (by omega) (fun i hi => hk2 i (OD.id_lt h16 hi).2)
 have h22 := kA (n' := ((n1 + 1) + 1)) h17 hk2
 have h23 := kA (n' := ((n1 + 1) + 1)) h18 hk2
 have h24 := OW.lower (lo' := n0) hO0 (by omega)
 have hlon2 := hS4.lo
 with_reducible refine WL.nil ⟨rfl, ?_⟩
 refine oP ?_
 obtain ⟨hc2, hr⟩ := chk_some hr
 refine GL.append (α := GRec) hS4 .w rfl rfl rfl U28 U28 rfl info35 rfl rfl rfl (by decide) rfl rfl h23 (by omega) (by omega) (OW.src h24) hc2 (fun a4 cap4 n2 H6 hS5 hn0 hO1 hk3 hid1 => ?_)
 have ho6 := (hk3 _ (by have := lt1; omega) ap9).trans ho5
 have h25 := OW.keep h19 hn0 (fun i hi => hk3 i (OW.id_lt h19 hi).2 (fun hj => ap10 _ hj hi))
 have h26 := OW.keep h20 hn0 (fun i hi => hk3 i (OW.id_lt h20 hi).2 (fun hj => ap11 _ hj hi))
 have h27 := OD.keep h21 hn0 (fun i hi => hk3 i (OD.id_lt h21 hi).2 (fun hj => ap12 _ hj hi))
 have h28 := OW.keep h22 hn0 (fun i hi => hk3 i (OW.id_lt h22 hi).2 (fun hj => ap13 _ hj hi))
 have hlon3 := hS5.lo
 with_reducible refine WL.nil ⟨rfl, ?_⟩
 refine oP (zR rfl ?_)
 with_reducible refine WL.nil ⟨rfl, ?_⟩
 refine oP (fR rfl U30 rfl info28 rfl ?_)
 with_reducible refine WL.nil ⟨rfl, ?_⟩
 refine WLI.op (fun _ => trivial) ?_
 refine GL.store hS5 .w (vc := [.slice a4 (xs0 ++ ([(⟨x4.Term, x4.Index, x4.Data⟩ : GRec)] : List GRec)).length cap4]) (c' := [.slice a2 x1.Peers.length cap3, .slice a7 x1.Net.length cap8, .slice a4 (xs0 ++ ([(⟨x4.Term, x4.Index, x4.Data⟩ : GRec)] : List GRec)).length cap4, .bool x2]) rfl rfl rfl info28 rfl rfl rfl rfl ho6 fo0 (bl rfl) lo17 (one1 rfl) rfl (fun H7 hS6 ho7 hk4 => ?_)
 have h29 := kB h25 hk4 ap0
 have h30 := kB h26 hk4 ap1
 have h31 := OD.keep h27 (Nat.le_refl _) (fun i hi => hk4 i (fun hj => ap2 (hj ▸ hi)))
 have h32 := kB h28 hk4 ap5
 have h33 := kB hO1 hk4 (Ap.new0 hid1 (by have := lt1; omega) ap9)
 with_reducible refine WL.nil ⟨rfl, ?_⟩
 refine WLI.nil (fun h => by cases h) ?_
 refine eB (eB (eT ?_))
 exact ⟨[(0, pt p0 0), (21, .slice a50 xs49.length cap51), (22, iv (xs49.length : Int)), (23, iv x0)], (fl4), S0, a4, cap4, (xs0 ++ ([(⟨x4.Term, x4.Index, x4.Data⟩ : GRec)] : List GRec)), x2, F1, rfl, hS6, (hE1.up (by omega)), ho7, fo0, h29, h30, h31, h32, h33, ap0, ap1, ap2, ap3, ap4, ap5, ap6, ap7, ap8, (Ap.new0 hid1 (by have := lt1; omega) ap9), (Ap.new hid1 (OW.hb h19) ap10), (Ap.new hid1 (OW.hb h20) ap11), (Ap.new hid1 (OD.hb h21) ap12), (Ap.new hid1 (OW.hb h22) ap13), hr⟩
 }
 {
 replace hr := ite_neg hr hc1
 refine wS ?_
 refine W.regionD r11 f11 rfl rfl kr kr mP ?_
 refine WL.loadN .r (l' := [iv x4.Term, iv x4.Index, .slice a3 x4.Data.length cap2]) rfl rfl rfl U35 rfl info35 rfl ho3 rfl rfl (mR rfl (zR rfl (fR rfl U30 rfl info28 rfl (lR rfl U28 rfl ho4 rfl (mR rfl ?_)))))
 obtain ⟨x6, hx1, hr⟩ := bnd_some hr
 refine GL.indexO .r rfl rfl rfl U28 info35 rfl rfl h18 rfl hx1 (fun b1 kp1 c1 ecs1 hid2 hrow1 hwin1 hR1 hup1 => ?_)
 obtain ⟨a5, cap5, rfl, h34⟩ := GRec.ofR hR1
 refine WL.loadN .r (l' := [iv x6.Term, iv x6.Index, .slice a5 x6.Data.length cap5]) rfl rfl rfl U35 rfl info35 rfl hrow1 hwin1 rfl ?_
 obtain ⟨x7, hx2, hr⟩ := bnd_some hr
 refine GL.callP g.good .r rfl rfl rfl rfl rfl rfl Try.func41 rfl rfl (Nat.le_refl _) (f_impl_sameRec_k (x1 := (⟨x4.Term, x4.Index, x4.Data⟩ : GRec)) (x5 := (⟨x6.Term, x6.Index, x6.Data⟩ : GRec)) g hS3 h6 h34 hx2) (fun v n3 H8 hn1 hk5 hp0 => ?_)
 obtain ⟨hS7, rfl⟩ := hp0
 have ho8 := oA hk5 ho4 lt1
 have h35 := kA (n' := n3) h14 hk5
 have h36 := kA (n' := n3) h15 hk5
 have h37 := OD.keep (n' := n3) h16 (by omega) (fun i hi => hk5 i (OD.id_lt h16 hi).2)
 have h38 := kA (n' := n3) h17 hk5
 have h39 := kA (n' := n3) h18 hk5
 have hS8 : St lo n3 H8 F1 := ⟨by have := hS3.lo; omega, hS7.hb, hS7.fh⟩
 have hlon4 := hS8.lo
 refine WL.not .r rfl rfl rfl rfl (aR rfl (wN (eT ?_)))
 refine W.cond rfl (fun hc3 => ?_) (fun hc3 => ?_)
 {
 replace hr := iteB_pos hr hc3
 refine wR (mN rfl (zN rfl (fN rfl U30 rfl info4 rfl ?_)))
 refine GL.store hS8 .nil (vc := [.bool true]) (c' := [.slice a2 x1.Peers.length cap3, .slice a7 x1.Net.length cap8, .slice a0 xs0.length cap0, .bool true]) rfl rfl rfl info4 rfl rfl rfl rfl ho8 fo0 (bl rfl) lo17 (one1 rfl) rfl (fun H9 hS9 ho9 hk6 => ?_)
 have h40 := kB h35 hk6 ap0
 have h41 := kB h36 hk6 ap1
 have h42 := OD.keep h37 (Nat.le_refl _) (fun i hi => hk6 i (fun hj => ap2 (hj ▸ hi)))
 have h43 := kB h38 hk6 ap5
 have h44 := kB h39 hk6 ap9
 refine wN (eB (eB (eT ?_)))
 exact ⟨[(0, pt p0 0), (21, .slice a50 xs49.length cap51), (22, iv (xs49.length : Int)), (23, iv x0)], (fl4), S0, a0, cap0, xs0, true, F1, rfl, hS9, (hE1.up (by omega)), ho9, fo0, h40, h41, h42, h43, h44, ap0, ap1, ap2, ap3, ap4, ap5, ap6, ap7, ap8, ap9, ap10, ap11, ap12, ap13, hr⟩
 }
 {
 replace hr := iteB_neg hr hc3
 refine wK (eB (eB (eT ?_)))
 exact ⟨[(0, pt p0 0), (21, .slice a50 xs49.length cap51), (22, iv (xs49.length : Int)), (23, iv x0)], (fl4), S0, a0, cap0, xs0, x2, F1, rfl, hS8, (hE1.up (by omega)), ho8, fo0, h35, h36, h37, h38, h39, ap0, ap1, ap2, ap3, ap4, ap5, ap6, ap7, ap8, ap9, ap10, ap11, ap12, ap13, hr⟩
 }
 }
 }
 {
 intro _ n4 H10 hI
 obtain ⟨S1, a1, cap1, xs1, x3, F2, rfl, hS10, hE2, ho10, fo2, h45, h48, h49, h50, h51, ap14, ap15, ap16, ap17, ap18, ap25, ap26, ap27, ap28, ap29, ap30, ap31, ap32, ap33, hr⟩ := hI
 have lt3 := hS10.lt ho10
 have hlen1 := hE2.le
 have hlon5 := hS10.lo
 unfold f_impl_Cluster_choose_J1 at hr
 refine wR ?_
 obtain ⟨hc4, hr⟩ := chk_some hr
 refine WL.addI .nil rfl rfl rfl rfl rfl hc4.1 hc4.2 (mN rfl (wN (eT ?_)))
 exact ⟨[(0, pt p0 0), (21, .slice a50 xs49.length cap51), (22, iv (xs49.length : Int)), (23, iv (x0 + 1))], (fl4), (x0 + 1), S1, a1, cap1, xs1, x3, F2, rfl, hS10, hE2, ho10, fo2, h45, h48, h49, h50, h51, ap14, ap15, ap16, ap17, ap18, ap25, ap26, ap27, ap28, ap29, ap30, ap31, ap32, ap33, hr⟩
 }
 }
 {
 replace hr := ite_neg hr hc0
 refine W.exit (eX (eX (eH ?_)))
 obtain ⟨S2, hs0, h52⟩ := GPeer.close0_Log h2 hx25 h1
 obtain rfl := Option.some.inj hr
 exact ⟨.inl rfl, _, .nil, ⟨F1, S2, a7, cap8, a0, cap0, (hE1.up (by omega)), hS1, ho0, rfl, h52, rfl, h3, h5, (Ap.or0 hs0 ap2 ap1), ap5, ap9, (Ap.sym (Ap.or hs0 (Ap.sym ap8) (Ap.sym ap7))), (Ap.sym (Ap.or hs0 (Ap.sym ap12) (Ap.sym ap11))), ap13⟩⟩
 }
 }
theorem f_impl_Cluster_commit_k {Δ : Prims} (g : Env Try.prog Δ) {lo n0 : Nat} {H0 F0 : Heap} (hS : St lo n0 H0 F0) {p0 : Nat} {x1 : GCluster} {ez0 : Nat} {a2 : Option Addr} {cap3 : Nat} {S6 : Nat → Prop} {a7 : Option Addr} {cap8 : Nat} {a11 : Option Addr} {cap12 : Nat} {x18 : Int} (ho15 : H0 p0 = some (.row ez0 [.slice a2 x1.Peers.length cap3, .slice a7 x1.Net.length cap8, .slice a11 x1.Chosen.length cap12, .bool x1.Conflict])) (fo16 : F0 p0 = none) (lo17 : lo ≤ p0) (h4 : OD lo n0 H0 F0 S6 [] (.slice a2 x1.Peers.length cap3) x1.Peers) (h9 : Ow lo n0 H0 F0 a7 cap8 x1.Net) (h13 : Ow lo n0 H0 F0 a11 cap12 x1.Chosen) (ap19 : ¬ S6 p0) (ap20 : nP (.slice a7 x1.Net.length cap8) p0) (ap21 : nS (.slice a7 x1.Net.length cap8) S6) (ap22 : nP (.slice a11 x1.Chosen.length cap12) p0) (ap23 : nS (.slice a11 x1.Chosen.length cap12) S6) (ap24 : nA (.slice a11 x1.Chosen.length cap12) (.slice a7 x1.Net.length cap8)) {res : (GCluster)} (hr : f_impl_Cluster_commit x1 x18 = some res) :
    C Try.prog Δ lo 60 [pt p0 0, iv x18] n0 H0 (fun v n H => ∃ (F : Heap) (rS2 : Nat → Prop) (ra4 : OA) (rcap5 : Nat) (ra7 : OA) (rcap8 : Nat), Ext n0 F0 n F ∧ St lo n H F ∧ H p0 = some (.row ez0 [.slice a2 x1.Peers.length cap3, .slice ra4 res.Net.length rcap5, .slice ra7 res.Chosen.length rcap8, .bool res.Conflict]) ∧ v = .tuple #[] ∧ OD lo n H F rS2 [] (.slice a2 x1.Peers.length cap3) res.Peers ∧ x1.Peers.length = res.Peers.length ∧ Ow lo n H F ra4 rcap5 res.Net ∧ Ow lo n H F ra7 rcap8 res.Chosen ∧ ¬ rS2 p0 ∧ nP (.slice ra4 res.Net.length rcap5) p0 ∧ nP (.slice ra7 res.Chosen.length rcap8) p0 ∧ nS (.slice ra4 res.Net.length rcap5) rS2 ∧ nS (.slice ra7 res.Chosen.length rcap8) rS2 ∧ nA (.slice ra7 res.Chosen.length rcap8) (.slice ra4 res.Net.length rcap5)) := by
 refine C.body Try.func60 rfl rfl ?_
 unfold f_impl_Cluster_commit at hr
 have hS0 : St lo n0 H0 F0 := hS
 have hE0 := Ext.refl n0 F0
 have hlo0 := hS0.lo
 have lt0 := hS0.lt ho15
 refine wS (wR (mN rfl (zN rfl (fN rfl U30 rfl info26 rfl (lN rfl U26 rfl ho15 rfl (mN rfl ?_))))))
 obtain ⟨x25, hx25, hr⟩ := bnd_some hr
 refine GL.indexD .nil rfl rfl rfl U26 info42 rfl rfl h4 rfl hx25 (fun b26 el27 hp28 => ?_)
 refine aN rfl (wN (eT (wS (wS (wR (mN rfl (zN rfl (fN rfl U42 rfl info28 rfl ?_))))))))
 obtain ⟨c29, ecs30, hrow31, hwin32, hb33⟩ := OD.get h4 hp28 hx25
 obtain ⟨a34, cap35, a36, cap37, a38, cap39, a40, cap41, rfl⟩ := GPeer.ofB hb33
 obtain ⟨S42, hs43, hs44, hs45, h46, h47⟩ := GPeer.open_Log h4 hp28 hx25 hrow31 hwin32 (List.forall_mem_nil _)
 refine lN rfl U28 rfl hrow31 (wG 5 hwin32) (WL.len .nil rfl rfl rfl U28 rfl (aN rfl (wN (eT ?_))))
 refine W.cut (fun fr n H => ∃ (xs0 : (List GPeer)) (S0 : Nat → Prop) (F : Heap), fr = [(0, pt p0 0), (1, iv x18)] ∧ St lo n H F ∧ Ext n0 F0 n F ∧ H p0 = some (.row ez0 [.slice a2 x1.Peers.length cap3, .slice a7 x1.Net.length cap8, .slice a11 x1.Chosen.length cap12, .bool x1.Conflict]) ∧ F p0 = none ∧ OD lo n H F S0 [] (.slice a2 x1.Peers.length cap3) xs0 ∧ x1.Peers.length = xs0.length ∧ Ow lo n H F a7 cap8 x1.Net ∧ Ow lo n H F a11 cap12 x1.Chosen ∧ ¬ S0 p0 ∧ nP (.slice a7 x1.Net.length cap8) p0 ∧ nS (.slice a7 x1.Net.length cap8) S0 ∧ nP (.slice a11 x1.Chosen.length cap12) p0 ∧ nS (.slice a11 x1.Chosen.length cap12) S0 ∧ nA (.slice a11 x1.Chosen.length cap12) (.slice a7 x1.Net.length cap8) ∧ f_impl_Cluster_commit_J0 x1 x18 xs0 = some res) ?_ ?_
 {
 refine W.block ?_
 obtain ⟨S1, hs0, h0⟩ := GPeer.close0_Log h47 hx25 h46
 refine W.loopF (fun k1 fr n H => ∃ (x0 : Int) (S2 : Nat → Prop) (F : Heap), fr = [(0, pt p0 0), (1, iv x18), (4, pt b26 el27), (5, iv x0)] ∧ St lo n H F ∧ Ext n0 F0 n F ∧ H p0 = some (.row ez0 [.slice a2 x1.Peers.length cap3, .slice a7 x1.Net.length cap8, .slice a11 x1.Chosen.length cap12, .bool x1.Conflict]) ∧ F p0 = none ∧ OD lo n H F S2 [] (.slice a2 x1.Peers.length cap3) x1.Peers ∧ Ow lo n H F a7 cap8 x1.Net ∧ Ow lo n H F a11 cap12 x1.Chosen ∧ ¬ S2 p0 ∧ nP (.slice a7 x1.Net.length cap8) p0 ∧ nS (.slice a7 x1.Net.length cap8) S2 ∧ nP (.slice a11 x1.Chosen.length cap12) p0 ∧ nS (.slice a11 x1.Chosen.length cap12) S2 ∧ nA (.slice a11 x1.Chosen.length cap12) (.slice a7 x1.Net.length cap8) ∧ f_impl_Cluster_commit_L1 x25 x1 x18 k1 x0 = some res) BIG (fr0 := [(0, pt p0 0), (1, iv x18), (4, pt b26 el27), (5, iv (x25.Log.length : Int))]) (fl4) ?_ ?_ ?_
 {
 exact ⟨(x25.Log.length : Int), S1, F0, rfl, hS0, hE0, ho15, fo16, h0, h9, h13, (Ap.or0 hs0 (Ap.sub0 hs43 ap19) (Ap.sub0 hs44 ap19)), ap20, (Ap.sym (Ap.or hs0 (Ap.sub hs43 (Ap.sym ap21)) (Ap.sub hs44 (Ap.sym ap21)))), ap22, (Ap.sym (Ap.or hs0 (Ap.sub hs43 (Ap.sym ap23)) (Ap.sub hs44 (Ap.sym ap23)))), ap24, hr⟩
 }
 {
 intro fr n H hI
 obtain ⟨x0, S2, F1, hfr, hS1, hE1, ho0, fo0, h1, h2, h3, ap0, ap1, ap2, ap3, ap4, ap5, hr⟩ := hI
 rw [f_impl_Cluster_commit_L1] at hr
 cases hr
 }
 {
 intro k1 _ n1 H1 hI
 obtain ⟨x0, S2, F1, rfl, hS1, hE1, ho0, fo0, h1, h2, h3, ap0, ap1, ap2, ap3, ap4, ap5, hr⟩ := hI
 have lt1 := hS1.lt ho0
 have hlen0 := hE1.le
 have hlon0 := hS1.lo
 rw [f_impl_Cluster_commit_L1] at hr
 refine wS (wS (wR (mN rfl (mN rfl (zN rfl (fN rfl U42 rfl info3 rfl ?_))))))
 obtain ⟨c0, ecs0, hrow0, hwin0, hb0⟩ := OD.get h1 hp28 hx25
 obtain ⟨a0, cap0, a1, cap1, a3, cap2, a4, cap4, rfl⟩ := GPeer.ofB hb0
 refine lN rfl U3 rfl hrow0 (wG 3 hwin0) (bN rfl rfl (wN (eT ?_)))
 refine W.condD rfl (fun hc0 => ?_) (fun hc0 => ?_)
 {
 replace hr := ite_pos hr hc0
 refine wK (eT (wS (W.block (wS (wR (aN rfl (wN (eT (wS (wS (wR ?_)))))))))))
 refine mN rfl (zN rfl (fN rfl U42 rfl info31 rfl ?_))
 obtain ⟨S3, hs1, hs2, hs3, h5, h6⟩ := GPeer.open_Match h1 hp28 hx25 hrow0 hwin0 (List.forall_mem_nil _)
 refine lN rfl U31 rfl hrow0 (wG 8 hwin0) (WL.len .nil rfl rfl rfl U31 rfl (mN rfl (wN (eT (W.block ?_)))))
 refine W.loopF (fun k2 fr n H => ∃ (x2 : Int) (x3 : Int) (S4 : Nat → Prop) (F : Heap), fr = [(0, pt p0 0), (1, iv x18), (4, pt b26 el27), (5, iv x0), (6, iv x2), (31, .slice a4 x25.Match.length cap4), (32, iv (x25.Match.length : Int)), (33, iv x3)] ∧ St lo n H F ∧ Ext n0 F0 n F ∧ H p0 = some (.row ez0 [.slice a2 x1.Peers.length cap3, .slice a7 x1.Net.length cap8, .slice a11 x1.Chosen.length cap12, .bool x1.Conflict]) ∧ F p0 = none ∧ Ow lo n H F a4 cap4 x25.Match ∧ OD lo n H F S4 [((x18).toNat, 8, .slice a4 x25.Match.length cap4)] (.slice a2 x1.Peers.length cap3) x1.Peers ∧ Ow lo n H F a7 cap8 x1.Net ∧ Ow lo n H F a11 cap12 x1.Chosen ∧ nP (.slice a4 x25.Match.length cap4) p0 ∧ ¬ S4 p0 ∧ Sn S4 (.slice a4 x25.Match.length cap4) ∧ nP (.slice a7 x1.Net.length cap8) p0 ∧ nA (.slice a7 x1.Net.length cap8) (.slice a4 x25.Match.length cap4) ∧ nS (.slice a7 x1.Net.length cap8) S4 ∧ nP (.slice a11 x1.Chosen.length cap12) p0 ∧ nA (.slice a11 x1.Chosen.length cap12) (.slice a4 x25.Match.length cap4) ∧ nS (.slice a11 x1.Chosen.length cap12) S4 ∧ nA (.slice a11 x1.Chosen.length cap12) (.slice a7 x1.Net.length cap8) ∧ f_impl_Cluster_commit_L2 x25 x0 x1 x18 (f_impl_Cluster_commit_L1 x25 x1 x18 k1) k2 x2 x3 = some res) BIG (fr0 := [(0, pt p0 0), (1, iv x18), (4, pt b26 el27), (5, iv x0), (6, iv 0), (31, .slice a4 x25.Match.length cap4), (32, iv (x25.Match.length : Int)), (33, iv 0)]) (fl8) ?_ ?_ ?_
 {
 exact ⟨0, 0, S3, F1, rfl, hS1, hE1, ho0, fo0, h5, h6, h2, h3, (Ap.sub0 hs2 ap0), (Ap.sub0 hs1 ap0), (Ap.sym hs3), ap1, (Ap.sym (Ap.sub hs2 (Ap.sym ap2))), (Ap.sym (Ap.sub hs1 (Ap.sym ap2))), ap3, (Ap.sym (Ap.sub hs2 (Ap.sym ap4))), (Ap.sym (Ap.sub hs1 (Ap.sym ap4))), ap5, hr⟩
 }
 {
 intro fr n H hI
 obtain ⟨x2, x3, S4, F2, hfr, hS2, hE2, ho1, fo1, h7, h8, h10, h11, ap6, ap7, ap8, ap9, ap10, ap11, ap12, ap13, ap14, ap15, hr⟩ := hI
 rw [f_impl_Cluster_commit_L2] at hr
 cases hr
 }
 {
 intro k2 _ n2 H2 hI
 obtain ⟨x2, x3, S4, F2, rfl, hS2, hE2, ho1, fo1, h7, h8, h10, h11, ap6, ap7, ap8, ap9, ap10, ap11, ap12, ap13, ap14, ap15, hr⟩ := hI
 have lt2 := hS2.lt ho1
 have hlen1 := hE2.le
 have hlon1 := hS2.lo
 rw [f_impl_Cluster_commit_L2] at hr
 refine wS (wR (bN rfl rfl (wN (eT (wS ?_)))))
 refine W.condD rfl (fun hc1 => ?_) (fun hc1 => ?_)
 {
 replace hr := ite_pos hr hc1
 refine wK (eT (wS ?_))
 refine W.cut (fun fr n H => ∃ (x4 : Int) (S5 : Nat → Prop) (F : Heap), fr = [(0, pt p0 0), (1, iv x18), (4, pt b26 el27), (5, iv x0), (6, iv x4), (31, .slice a4 x25.Match.length cap4), (32, iv (x25.Match.length : Int)), (33, iv x3)] ∧ St lo n H F ∧ Ext n0 F0 n F ∧ H p0 = some (.row ez0 [.slice a2 x1.Peers.length cap3, .slice a7 x1.Net.length cap8, .slice a11 x1.Chosen.length cap12, .bool x1.Conflict]) ∧ F p0 = none ∧ Ow lo n H F a4 cap4 x25.Match ∧ OD lo n H F S5 [((x18).toNat, 8, .slice a4 x25.Match.length cap4)] (.slice a2 x1.Peers.length cap3) x1.Peers ∧ Ow lo n H F a7 cap8 x1.Net ∧ Ow lo n H F a11 cap12 x1.Chosen ∧ nP (.slice a4 x25.Match.length cap4) p0 ∧ ¬ S5 p0 ∧ Sn S5 (.slice a4 x25.Match.length cap4) ∧ nP (.slice a7 x1.Net.length cap8) p0 ∧ nA (.slice a7 x1.Net.length cap8) (.slice a4 x25.Match.length cap4) ∧ nS (.slice a7 x1.Net.length cap8) S5 ∧ nP (.slice a11 x1.Chosen.length cap12) p0 ∧ nA (.slice a11 x1.Chosen.length cap12) (.slice a4 x25.Match.length cap4) ∧ nS (.slice a11 x1.Chosen.length cap12) S5 ∧ nA (.slice a11 x1.Chosen.length cap12) (.slice a7 x1.Net.length cap8) ∧ f_impl_Cluster_commit_J3 x3 (f_impl_Cluster_commit_L2 x25 x0 x1 x18 (f_impl_Cluster_commit_L1 x25 x1 x18 k1) k2) x4 = some res) ?_ ?_
 {
 refine W.block (wS (wR ?_))
 obtain ⟨x5, hx0, hr⟩ := bnd_some hr
 refine GL.indexO .nil rfl rfl rfl U31 info3 rfl rfl h7 rfl hx0 (fun b0 kp0 c1 ecs1 hid0 hrow1 hwin1 hR0 hup0 => ?_)
 have hcs : _ = ([iv x5] : List Value) := hR0
 subst hcs
 refine lN rfl U3 rfl hrow1 ((win_get0 hwin1 (show (0 : Nat) < 1 by decide)).trans rfl) (aN rfl (wN (eT (wS (wR (mN rfl (mN rfl (bN rfl rfl (wN (eT ?_))))))))))
 refine W.condD rfl (fun hc2 => ?_) (fun hc2 => ?_)
 {
 replace hr := ite_pos hr hc2
 refine wR (mN rfl ?_)
 obtain ⟨hc3, hr⟩ := chk_some hr
 refine WL.addI .nil rfl rfl rfl rfl rfl hc3.1 hc3.2 (aN rfl (wN (eB (eT ?_))))
 exact ⟨[(0, pt p0 0), (1, iv x18), (4, pt b26 el27), (5, iv x0), (6, iv (x2 + 1)), (31, .slice a4 x25.Match.length cap4), (32, iv (x25.Match.length : Int)), (33, iv x3)], (fl8), (x2 + 1), S4, F2, rfl, hS2, hE2, ho1, fo1, h7, h8, h10, h11, ap6, ap7, ap8, ap9, ap10, ap11, ap12, ap13, ap14, ap15, hr⟩
 }
 {
 replace hr := ite_neg hr hc2
 refine wK (eB (eT ?_))
 exact ⟨[(0, pt p0 0), (1, iv x18), (4, pt b26 el27), (5, iv x0), (6, iv x2), (31, .slice a4 x25.Match.length cap4), (32, iv (x25.Match.length : Int)), (33, iv x3)], (fl8), x2, S4, F2, rfl, hS2, hE2, ho1, fo1, h7, h8, h10, h11, ap6, ap7, ap8, ap9, ap10, ap11, ap12, ap13, ap14, ap15, hr⟩
 }
 }
 {
 intro _ n3 H3 hI
 obtain ⟨x4, S5, F3, rfl, hS3, hE3, ho2, fo2, h12, h14, h15, h16, ap16, ap17, ap18, ap25, ap26, ap27, ap28, ap29, ap30, ap31, hr⟩ := hI
 have lt3 := hS3.lt ho2
 have hlen2 := hE3.le
 have hlon2 := hS3.lo
 unfold f_impl_Cluster_commit_J3 at hr
 refine wR ?_
 obtain ⟨hc4, hr⟩ := chk_some hr
 refine WL.addI .nil rfl rfl rfl rfl rfl hc4.1 hc4.2 (mN rfl (wN (eT ?_)))
 exact ⟨[(0, pt p0 0), (1, iv x18), (4, pt b26 el27), (5, iv x0), (6, iv x4), (31, .slice a4 x25.Match.length cap4), (32, iv (x25.Match.length : Int)), (33, iv (x3 + 1))], (fl8), x4, (x3 + 1), S5, F3, rfl, hS3, hE3, ho2, fo2, h12, h14, h15, h16, ap16, ap17, ap18, ap25, ap26, ap27, ap28, ap29, ap30, ap31, hr⟩
 }
 }
 {
 replace hr := ite_neg hr hc1
 refine W.exit (eX (eX (eH (eT (wS ?_)))))
 refine W.cut (fun fr n H => ∃ (x6 : Bool) (S7 : Nat → Prop) (F : Heap), fr = [(0, pt p0 0), (1, iv x18), (4, pt b26 el27), (5, iv x0), (60, .bool x6)] ∧ St lo n H F ∧ Ext n0 F0 n F ∧ H p0 = some (.row ez0 [.slice a2 x1.Peers.length cap3, .slice a7 x1.Net.length cap8, .slice a11 x1.Chosen.length cap12, .bool x1.Conflict]) ∧ F p0 = none ∧ OD lo n H F S7 [] (.slice a2 x1.Peers.length cap3) x1.Peers ∧ Ow lo n H F a7 cap8 x1.Net ∧ Ow lo n H F a11 cap12 x1.Chosen ∧ ¬ S7 p0 ∧ nP (.slice a7 x1.Net.length cap8) p0 ∧ nS (.slice a7 x1.Net.length cap8) S7 ∧ nP (.slice a11 x1.Chosen.length cap12) p0 ∧ nS (.slice a11 x1.Chosen.length cap12) S7 ∧ nA (.slice a11 x1.Chosen.length cap12) (.slice a7 x1.Net.length cap8) ∧ f_impl_Cluster_commit_J4 x1 x18 x25 x0 (f_impl_Cluster_commit_L1 x25 x1 x18 k1) x6 = some res) ?_ ?_
 {
 refine W.regionD r18 f18 rfl rfl kr kr mP ?_
 refine mR rfl (mR rfl (zR rfl (fR rfl U30 rfl info26 rfl (lR rfl U26 rfl ho1 rfl (WL.len .r rfl rfl rfl U26 rfl ?_)))))
 obtain ⟨x7, hx1, hr⟩ := bnd_some hr
 refine GL.callP g.good .r rfl rfl rfl rfl rfl rfl Try.func34 rfl rfl (Nat.le_refl _) (f_impl_most_k  g hS2 hx1) (fun v n4 H4 hn0 hk0 hp0 => ?_)
 obtain ⟨hS4, rfl⟩ := hp0
 have ho3 := oA hk0 ho1 lt2
 have h17 := kA (n' := n4) h7 hk0
 have h18 := OD.keep (n' := n4) h8 (by omega) (fun i hi => hk0 i (OD.id_lt h8 hi).2)
 have h19 := kA (n' := n4) h10 hk0
 have h20 := kA (n' := n4) h11 hk0
 have hS5 : St lo n4 H4 F2 := ⟨by have := hS2.lo; omega, hS4.hb, hS4.fh⟩
 have hlon3 := hS5.lo
 refine bR rfl rfl (mR rfl ?_)
 refine WL.guardD rfl rfl rfl (fun hg0 => ?_) (fun hg0 => ?_)
 {
 replace hr := ite_pos hr hg0
 refine mR rfl (mR rfl ?_)
 obtain ⟨c2, ecs2, hrow2, hwin2, hb1⟩ := OD.get h18 hp28 hx25
 obtain ⟨a5, cap5, a6, cap6, a8, cap7, a9, cap9, rfl⟩ := GPeer.ofB hb1
 have hq0 := OD.hole h18 hp28 hx25 hrow2 hwin2
 obtain ⟨rfl, rfl⟩ := hdr_eq (a := a9) (c := cap9) hq0
 obtain ⟨S8, hs4, hs5, hs6, h21, h22⟩ := GPeer.open_Log h18 hp28 hx25 hrow2 hwin2 (List.forall_mem_cons.2 ⟨fun h => absurd (show (8 : Nat) = 5 from h.2) (by decide), List.forall_mem_nil _⟩)
 obtain ⟨x8, hx2, hr⟩ := bnd_some hr
 refine GL.callP g.good .r rfl rfl rfl rfl rfl rfl Try.func94 rfl rfl (Nat.le_refl _) (f_impl_Peer_term_elem0_k  g hS5 hrow2 hwin2 h21 hx2) (fun v n5 H5 hn1 hk1 hp1 => ?_)
 obtain ⟨hS6, rfl⟩ := hp1
 have ho4 := oA hk1 ho3 lt2
 have h23 := kA (n' := n5) h17 hk1
 have h24 := OD.keep (n' := n5) h22 (by omega) (fun i hi => hk1 i (OD.id_lt h22 hi).2)
 have h25 := kA (n' := n5) h19 hk1
 have h26 := kA (n' := n5) h20 hk1
 have h27 := kA (n' := n5) h21 hk1
 have hS7 : St lo n5 H5 F2 := ⟨by have := hS5.lo; omega, hS6.hb, hS6.fh⟩
 have hlon4 := hS7.lo
 refine mR rfl (zR rfl (fR rfl U42 rfl info3 rfl ?_))
 obtain ⟨c3, ecs3, hrow3, hwin3, hb2⟩ := OD.get h24 hp28 hx25
 obtain ⟨a10, cap10, a12, cap11, a13, cap13, a14, cap14, rfl⟩ := GPeer.ofB hb2
 have hq1 := OD.hole h24 hp28 hx25 hrow3 hwin3
 obtain ⟨rfl, rfl⟩ := hdr_eq (a := a10) (c := cap10) hq1
 have hq2 := OD.hole (OD.swap h24) hp28 hx25 hrow3 hwin3
 obtain ⟨rfl, rfl⟩ := hdr_eq (a := a14) (c := cap14) hq2
 refine lR rfl U3 rfl hrow3 (wG 1 hwin3) (bR rfl rfl (WL.pick .r rfl rfl rfl rfl rfl (wN (eT ?_))))
 obtain ⟨S9, hs7, h28⟩ := GPeer.close0_Log h24 hx25 h27
 obtain ⟨S10, hs8, h29⟩ := GPeer.close0_Match h28 hx25 h23
 exact ⟨[(0, pt p0 0), (1, iv x18), (4, pt b26 el27), (5, iv x0), (60, .bool (decide (x8 = x25.Term)))], (fl5), (decide (x8 = x25.Term)), S10, F2, rfl, hS7, (hE2.up (by omega)), ho4, fo1, h29, h25, h26, (Ap.or0 hs8 (Ap.or0 hs7 (Ap.sub0 hs4 ap7) (Ap.sub0 hs5 ap7)) ap6), ap9, (Ap.sym (Ap.or hs8 (Ap.or hs7 (Ap.sub hs4 (Ap.sym ap11)) (Ap.sub hs5 (Ap.sym ap11))) (Ap.sym ap10))), ap12, (Ap.sym (Ap.or hs8 (Ap.or hs7 (Ap.sub hs4 (Ap.sym ap14)) (Ap.sub hs5 (Ap.sym ap14))) (Ap.sym ap13))), ap15, hr⟩
 }
 {
 replace hr := ite_neg hr hg0
 refine kR rfl (kR rfl (kR rfl (kR rfl (kR rfl (kR rfl (kR rfl (kR rfl (WL.pick .r rfl rfl rfl rfl rfl (wN (eT ?_))))))))))
 obtain ⟨S11, hs9, h30⟩ := GPeer.close0_Match h18 hx25 h17
 exact ⟨[(0, pt p0 0), (1, iv x18), (4, pt b26 el27), (5, iv x0), (60, .bool false)], (fl5), false, S11, F2, rfl, hS5, (hE2.up (by omega)), ho3, fo1, h30, h19, h20, (Ap.or0 hs9 ap7 ap6), ap9, (Ap.sym (Ap.or hs9 (Ap.sym ap11) (Ap.sym ap10))), ap12, (Ap.sym (Ap.or hs9 (Ap.sym ap14) (Ap.sym ap13))), ap15, hr⟩
 }
 }
 {
 intro _ n6 H6 hI
 obtain ⟨x6, S7, F4, rfl, hS8, hE4, ho5, fo3, h31, h32, h33, ap32, ap33, ap34, ap35, ap36, ap37, hr⟩ := hI
 have lt4 := hS8.lt ho5
 have hlen3 := hE4.le
 have hlon5 := hS8.lo
 unfold f_impl_Cluster_commit_J4 at hr
 refine W.cond rfl (fun hc5 => ?_) (fun hc5 => ?_)
 {
 replace hr := iteB_pos hr hc5
 refine wS (wR (mN rfl (mN rfl (zN rfl (fN rfl U42 rfl info3 rfl ?_)))))
 obtain ⟨c4, ecs4, hrow4, hwin4, hb3⟩ := OD.get h31 hp28 hx25
 obtain ⟨a15, cap15, a16, cap16, a17, cap17, a18, cap18, rfl⟩ := GPeer.ofB hb3
 refine GL.store hS8 .nil (vc := [iv x0]) rfl rfl rfl info3 rfl rfl rfl rfl hrow4 (OD.fnone h31 (OD.bS h31 hp28)) (win_fit2 hwin4 (bl rfl) rfl (bl rfl)) (by have := (OD.id_lt h31 (OD.bS h31 hp28)).1; omega) (one1 rfl) rfl (fun H7 hS9 ho6 hk2 => ?_)
 have ho7 := (hk2 p0 (fun hj => ap32 (by rw [hj]; exact (OD.bS h31 hp28)))).trans ho5
 have h34 := kC h32 hk2 ap34 (OD.bS h31 hp28)
 have h35 := kC h33 hk2 ap36 (OD.bS h31 hp28)
 have h36 := GPeer.put_Commit h31 hp28 hx25 hrow4 hwin4 (w := x0) ho6 hk2
 have hl0 := lnS h36
 have hx3 := ixS h36 hx25
 refine wN (eT (W.exit ?_))
 with_reducible refine Ex.blk_out (by decide) ?_
 refine eX (eX (eH (eT ?_)))
 exact ⟨[(0, pt p0 0), (1, iv x18)], (fl2), (setI x1.Peers x18 (⟨x25.Up, x25.Term, x25.Vote, x0, x25.Role, x25.Log, x25.Votes, x25.Next, x25.Match⟩ : GPeer)), S7, F4, rfl, hS9, hE4, ho7, fo3, h36, hl0, h34, h35, ap32, ap33, ap34, ap35, ap36, ap37, hr⟩
 }
 {
 replace hr := iteB_neg hr hc5
 refine wK (eB (eT (wR (mN rfl ?_))))
 obtain ⟨hc6, hr⟩ := chk_some hr
 refine WL.subI .nil rfl rfl rfl rfl rfl hc6.1 hc6.2 (aN rfl (wN (eT ?_)))
 exact ⟨[(0, pt p0 0), (1, iv x18), (4, pt b26 el27), (5, iv (x0 - 1))], (fl4), (x0 - 1), S7, F4, rfl, hS8, hE4, ho5, fo3, h31, h32, h33, ap32, ap33, ap34, ap35, ap36, ap37, hr⟩
 }
 }
 }
 }
 }
 {
 replace hr := ite_neg hr hc0
 refine W.exit (eX (eX (eH (eT ?_))))
 exact ⟨[(0, pt p0 0), (1, iv x18)], (fl2), x1.Peers, S2, F1, rfl, hS1, hE1, ho0, fo0, h1, rfl, h2, h3, ap0, ap1, ap2, ap3, ap4, ap5, hr⟩
 }
 }
 }
 {
 intro _ n7 H8 hI
 obtain ⟨xs0, S0, F5, rfl, hS10, hE5, ho8, fo4, h37, hl1, h38, h39, ap38, ap39, ap40, ap41, ap42, ap43, hr⟩ := hI
 have lt5 := hS10.lt ho8
 have hlen4 := hE5.le
 have hlon6 := hS10.lo
 unfold f_impl_Cluster_commit_J0 at hr
 refine wR (mN rfl (mN rfl ?_))
 obtain ⟨x9, hx4, hr⟩ := bnd_some hr
 refine GL.callIO g .nil (fun i => (F5 i).isSome = true ∨ i = p0 ∨ S0 i ∨ idOf (.slice a7 x1.Net.length cap8) = some i ∨ idOf (.slice a11 x1.Chosen.length cap12) = some i) rfl rfl rfl rfl rfl rfl Try.func95 rfl rfl (Nat.le_refl _) hS10.lo (f_impl_Cluster_choose_k (x1 := (⟨xs0, x1.Net, x1.Chosen, x1.Conflict⟩ : GCluster)) g (St.vis hS10 (fun i hi => .inl hi)) (by rw [← hl1]; exact vis_get ho8 (.inr (.inl rfl))) fo4 lo17 (OD.head hl1 (OD.vis h37 (fun i hi => (.inr (.inr (.inl hi)))))) (OW.vis h38 (fun i hi => (.inr (.inr (.inr (.inl hi)))))) (OW.vis h39 (fun i hi => (.inr (.inr (.inr (.inr (hi))))))) ap38 ap39 ap40 ap41 ap42 ap43 hx4) (fun v n8 H9 H10 hn2 hp2 hle0 hnew0 hk3 hd0 => ?_)
 obtain ⟨F6, S12, a19, cap19, a20, cap20, hX0, hS11, ho9, rfl, h40, hl2, h41, h42, ap44, ap45, ap46, ap47, ap48, ap49⟩ := hp2
 have hS12 : St lo n8 H9 _ := sA hS11 hnew0 hle0
 have hE6 := (hE5.up (n' := n7) (by omega)).trans hX0
 have ho10 := hle0 _ _ ho9
 have h43 := OD.le h40 hle0
 have hl3 : x1.Peers.length = x9.Peers.length := hl1.trans hl2
 rw [← hl1] at h43
 have h44 := OW.le h41 hle0
 have h45 := OW.le h42 hle0
 rw [← hl1] at ho10
 have hlon7 := hS12.lo
 have lt6 := hS12.lt ho10
 refine wN ?_
 obtain rfl := Option.some.inj hr
 exact ⟨.inl rfl, _, .nil, ⟨F6, S12, a19, cap19, a20, cap20, (hE6.up (by omega)), hS12, ho10, rfl, h43, hl3, h44, h45, ap44, ap45, ap46, ap47, ap48, ap49⟩⟩
 }
theorem f_impl_copyRecs_own0_k {Δ : Prims} (g : Env Try.prog Δ) {lo n0 : Nat} {H0 F0 : Heap} (hS : St lo n0 H0 F0) {a2 : Option Addr} {cap3 : Nat} {xs1 : (List GRec)} {lw0 : Nat} (h4 : Ow lw0 n0 H0 F0 a2 cap3 xs1) {res : ((List GRec))} (hr : f_impl_copyRecs_own0 xs1 = some res) :
    C Try.prog Δ n0 61 [.slice a2 xs1.length cap3] n0 H0 (fun v n H => ∃ (F : Heap) (ra1 : OA) (rcap2 : Nat), Ext n0 F0 n F ∧ St n0 n H F ∧ v = .slice ra1 res.length rcap2 ∧ Ow n0 n H F ra1 rcap2 res) := by
 refine C.body Try.func61 rfl rfl ?_
 unfold f_impl_copyRecs_own0 at hr
 have hS0 : St n0 n0 H0 F0 := hS.low (Nat.le_refl _)
 have hE0 := Ext.refl n0 F0
 have hlo0 := hS0.lo
 refine wS (wR (aN rfl (wN (eT (wS (wR ?_))))))
 refine GL.lit (cs := []) (xs := ([] : List GRec)) hS0 .nil rfl rfl rfl U28 info35 rfl rfl rfl (by decide) (by decide) rfl rfl rfl rfl rfl RA.nil rfl (fun H6 hS7 hO8 hk9 => ?_)
 have h10 := kA (n' := (n0 + 1)) h4 hk9
 have h11 := OW.lower (lo' := n0) hO8 (by omega)
 have hlon01 := hS7.lo
 refine aN rfl (wN (eT (wS (wS (wR (mN rfl (WL.len .nil rfl rfl rfl U28 rfl (mN rfl (wN (eT (W.block ?_)))))))))))
 refine W.loopF (fun k0 fr n H => ∃ (a0 : OA) (cap0 : Nat) (xs0 : (List GRec)) (x0 : Int) (F : Heap), fr = [(3, .slice a0 xs0.length cap0), (7, .slice a2 xs1.length cap3), (8, iv (xs1.length : Int)), (9, iv x0)] ∧ St n0 n H F ∧ Ext n0 F0 n F ∧ Ow n0 n H F a0 cap0 xs0 ∧ Ow lw0 n H F a2 cap3 xs1 ∧ nA (.slice a2 xs1.length cap3) (.slice a0 xs0.length cap0) ∧ f_impl_copyRecs_own0_L0 xs1 k0 xs0 x0 = some res) BIG (fr0 := [(3, .slice (some ⟨n0, 0, none⟩) ([] : List GRec).length 0), (7, .slice a2 xs1.length cap3), (8, iv (xs1.length : Int)), (9, iv 0)]) (fl4) ?_ ?_ ?_
 {
 exact ⟨(some ⟨n0, 0, none⟩), 0, ([] : List GRec), 0, F0, rfl, hS7, (hE0.up (by omega)), h11, h10, (Ap.sym (Ap.fresh (OW.lb hO8) (OW.hb h4))), hr⟩
 }
 {
 intro fr n H hI
 obtain ⟨a0, cap0, xs0, x0, F1, hfr, hS1, hE1, h0, h1, ap0, hr⟩ := hI
 rw [f_impl_copyRecs_own0_L0] at hr
 cases hr
 }
 {
 intro k0 _ n1 H1 hI
 obtain ⟨a0, cap0, xs0, x0, F1, rfl, hS1, hE1, h0, h1, ap0, hr⟩ := hI
 have hlen0 := hE1.le
 have hlon0 := hS1.lo
 rw [f_impl_copyRecs_own0_L0] at hr
 refine wS (wR (bN rfl rfl (wN (eT (wS ?_)))))
 refine W.condD rfl (fun hc0 => ?_) (fun hc0 => ?_)
 {
 replace hr := ite_pos hr hc0
 refine wK (eT (wS (W.block (wS (wR ?_)))))
 obtain ⟨x1, hx0, hr⟩ := bnd_some hr
 refine GL.indexO .nil rfl rfl rfl U28 info35 rfl rfl h1 rfl hx0 (fun b0 kp0 c0 ecs0 hid0 hrow0 hwin0 hR0 hup0 => ?_)
 obtain ⟨a1, cap1, rfl, h2⟩ := GRec.ofR hR0
 refine WL.loadN .nil (l' := [iv x1.Term, iv x1.Index, .slice a1 x1.Data.length cap1]) rfl rfl rfl U35 rfl info35 rfl hrow0 hwin0 rfl ?_
 refine GL.alloc hS1 .nil (zc := [iv 0, iv 0, .slice none 0 0]) rfl rfl rfl info35 rfl rfl rfl (fun H2 hS2 ho0 hk0 => ?_)
 have fo0 := hS1.fnone (Nat.le_refl _)
 have h3 := kA (n' := (n1 + 1)) h0 hk0
 have h5 := kA (n' := (n1 + 1)) h1 hk0
 have hlon1 := hS2.lo
 have lt0 : n1 < (n1 + 1) := by omega
 refine GL.store hS2 .nil (vc := [iv x1.Term, iv x1.Index, .slice a1 x1.Data.length cap1]) (c' := [iv x1.Term, iv x1.Index, .slice a1 x1.Data.length cap1]) rfl rfl rfl info35 rfl rfl rfl rfl ho0 fo0 (bl rfl) (by omega) bxP rfl (fun H3 hS3 ho1 hk1 => ?_)
 have h6 := kB h3 hk1 (aW h0)
 have h7 := kB h5 hk1 (aW h1)
 refine wN (eT (wS (wR (fN rfl U35 rfl info22 rfl (lN rfl U22 rfl ho1 rfl ?_)))))
 obtain ⟨x2, hx1, hr⟩ := bnd_some hr
 refine GL.callP g.good .nil rfl rfl rfl rfl rfl rfl Try.func59 rfl rfl hS3.lo (f_slices_Clone_byte_k  g hS3 (SR.src h2 hS3.fh) hx1) (fun v n2 H4 hn0 hk2 hp0 => ?_)
 obtain ⟨a3, cap2, hS4, rfl, h8⟩ := hp0
 have ho2 := oA hk2 ho1 lt0
 have h9 := kA (n' := n2) h6 hk2
 have h12 := kA (n' := n2) h7 hk2
 have hS5 : St n0 n2 H4 F1 := ⟨by have := hS3.lo; omega, hS4.hb, hS4.fh⟩
 have hlon2 := hS5.lo
 have h13 := OW.lower (lo' := n0) h8 (by omega)
 refine fN rfl U35 rfl info22 rfl ?_
 refine GL.store hS5 .nil (vc := [.slice a3 x2.length cap2]) (c' := [iv x1.Term, iv x1.Index, .slice a3 x2.length cap2]) rfl rfl rfl info22 rfl rfl rfl rfl ho2 fo0 (bl rfl) (by omega) (one1 rfl) rfl (fun H5 hS6 ho3 hk3 => ?_)
 have h14 := kB h9 hk3 (aW h0)
 have h15 := kB h12 hk3 (aW h1)
 have h16 := kB h13 hk3 (Ap.fresh0 (OW.lb h8) (by have := lt0; omega))
 refine wN (eT (wR (mN rfl (WL.loadN .nil (l' := [iv x1.Term, iv x1.Index, .slice a3 x2.length cap2]) rfl rfl rfl U35 rfl info35 rfl ho3 rfl rfl ?_))))
 obtain ⟨F2, hS8, hle0, h17, hf0⟩ := OW.freeze h16 hS6
 have h18 := kF h14 hle0 hf0 (Ap.fresh (OW.lb h8) (OW.hb h6))
 have h19 := kF h15 hle0 hf0 (Ap.fresh (OW.lb h8) (OW.hb h7))
 have hE2 : Ext n0 F0 n2 F2 := ⟨Nat.le_trans hE1.le (by omega), hE1.sub.trans hle0, fun i hi => (hf0 i (fun hj => by have := OW.id_lt h16 hj; omega)).trans (hE1.eq i hi)⟩
 refine GL.lit (cs := [iv x1.Term, iv x1.Index, .slice a3 x2.length cap2]) (xs := ([(⟨x1.Term, x1.Index, x2⟩ : GRec)] : List GRec)) hS8 .nil rfl rfl rfl U28 info35 rfl rfl rfl (by decide) (by decide) rfl rfl rfl rfl rfl (RA.cons (cs := [iv x1.Term, iv x1.Index, .slice a3 x2.length cap2]) (a := ((⟨x1.Term, x1.Index, x2⟩ : GRec) : GRec)) (GRec.toR (x := (⟨x1.Term, x1.Index, x2⟩ : GRec)) h17) RA.nil) rfl (fun H7 hS9 hO0 hk4 => ?_)
 have h20 := kA (n' := (n2 + 1)) h18 hk4
 have h21 := kA (n' := (n2 + 1)) h19 hk4
 have h22 := OW.lower (lo' := n0) hO0 (by omega)
 have hlon3 := hS9.lo
 obtain ⟨hc1, hr⟩ := chk_some hr
 refine GL.append (α := GRec) hS9 .nil rfl rfl rfl U28 U28 rfl info35 rfl rfl rfl (by decide) rfl rfl h20 (by omega) (by omega) (OW.src h22) hc1 (fun a4 cap4 n3 H8 hS10 hn1 hO1 hk5 hid1 => ?_)
 have h23 := OW.keep h21 hn1 (fun i hi => hk5 i (OW.id_lt h21 hi).2 (fun hj => (Ap.sym ap0) _ hj hi))
 have hlon4 := hS10.lo
 refine aN rfl (wN (eB (eT (wR ?_))))
 obtain ⟨hc2, hr⟩ := chk_some hr
 refine WL.addI .nil rfl rfl rfl rfl rfl hc2.1 hc2.2 (mN rfl (wN (eT ?_)))
 exact ⟨[(3, .slice a4 (xs0 ++ ([(⟨x1.Term, x1.Index, x2⟩ : GRec)] : List GRec)).length cap4), (7, .slice a2 xs1.length cap3), (8, iv (xs1.length : Int)), (9, iv (x0 + 1))], (fl4), a4, cap4, (xs0 ++ ([(⟨x1.Term, x1.Index, x2⟩ : GRec)] : List GRec)), (x0 + 1), F2, rfl, hS10, (hE2.up (by omega)), hO1, h23, (Ap.sym (Ap.new hid1 (OW.hb h21) (Ap.sym ap0))), hr⟩
 }
 {
 replace hr := ite_neg hr hc0
 refine W.exit (eX (eX (eH (eT (wS (wR (mN rfl (aN rfl (wN (eT (W.ret ?_)))))))))))
 obtain rfl := Option.some.inj hr
 exact ⟨.inr rfl, _, (.cons (.tmp rfl) .nil), ⟨F1, a0, cap0, (hE1.up (by omega)), hS1, rfl, h0⟩⟩
 }
 }
theorem f__impl_Msg_copied_own0_k {Δ : Prims} (g : Env Try.prog Δ) {lo n0 : Nat} {H0 F0 : Heap} (hS : St lo n0 H0 F0) {x1 : GMsg} {lw0 : Nat} {a2 : Option Addr} {cap3 : Nat} (h4 : Ow lw0 n0 H0 F0 a2 cap3 x1.Log) {res : (GMsg)} (hr : f__impl_Msg_copied_own0 x1 = some res) :
    C Try.prog Δ n0 64 [.agg [iv x1.Kind, iv x1.From, iv x1.To, iv x1.Term, iv x1.A, iv x1.B, iv x1.C, .bool x1.Ok, .slice a2 x1.Log.length cap3].toArray] n0 H0 (fun v n H => ∃ (F : Heap) (ra1 : OA) (rcap2 : Nat), Ext n0 F0 n F ∧ St n0 n H F ∧ v = .agg [iv res.Kind, iv res.From, iv res.To, iv res.Term, iv res.A, iv res.B, iv res.C, .bool res.Ok, .slice ra1 res.Log.length rcap2].toArray ∧ SR F (.slice ra1 res.Log.length rcap2) res.Log) := by
 refine C.body Try.func64 rfl rfl ?_
 unfold f__impl_Msg_copied_own0 at hr
 have hS0 : St n0 n0 H0 F0 := hS.low (Nat.le_refl _)
 have hE0 := Ext.refl n0 F0
 have hlo0 := hS0.lo
 refine wS (wR ?_)
 refine GL.box hS0 .nil (vc := [iv x1.Kind, iv x1.From, iv x1.To, iv x1.Term, iv x1.A, iv x1.B, iv x1.C, .bool x1.Ok, .slice a2 x1.Log.length cap3]) rfl rfl rfl rfl rfl bxP (fun H6 hS7 ho8 hk9 => ?_)
 have fo10 := hS0.fnone (Nat.le_refl _)
 have h12 := kA (n' := (n0 + 1)) h4 hk9
 have hlon01 := hS7.lo
 have lt11 : n0 < (n0 + 1) := by omega
 refine GL.alloc hS7 .nil (zc := [iv 0, iv 0, iv 0, iv 0, iv 0, iv 0, iv 0, .bool false, .slice none 0 0]) rfl rfl rfl info85 rfl rfl rfl (fun H13 hS14 ho15 hk16 => ?_)
 have fo17 := hS7.fnone (Nat.le_refl _)
 have ho19 := oA hk16 ho8 lt11
 have h20 := kA (n' := ((n0 + 1) + 1)) h12 hk16
 have hlon0 := hS14.lo
 have lt18 : (n0 + 1) < ((n0 + 1) + 1) := by omega
 refine wN (eT (wS (wR (fN rfl U85 rfl info28 rfl (lN rfl U28 rfl ho19 rfl ?_)))))
 obtain ⟨x21, hx21, hr⟩ := bnd_some hr
 refine GL.callP g.good .nil rfl rfl rfl rfl rfl rfl Try.func61 rfl rfl hS14.lo (f_impl_copyRecs_own0_k  g hS14 h20 hx21) (fun v n22 H23 hn24 hk25 hp26 => ?_)
 obtain ⟨F31, a27, cap28, hX32, hS30, rfl, h29⟩ := hp26
 have ho33 := oA hk25 ho19 lt11
 have ho34 := oA hk25 ho15 lt18
 have hS36 : St n0 n22 H23 F31 := ⟨by have := hS14.lo; omega, hS30.hb, hS30.fh⟩
 have fo37 := fA hX32 lt11 fo10
 have fo38 := fA hX32 lt18 fo17
 have hE40 := (hE0.up (n' := ((n0 + 1) + 1)) (by omega)).trans hX32
 have hlon22 := hS36.lo
 have h41 := OW.lower (lo' := n0) h29 (by omega)
 refine fN rfl U85 rfl info28 rfl ?_
 refine GL.store hS36 .nil (vc := [.slice a27 x21.length cap28]) (c' := [iv x1.Kind, iv x1.From, iv x1.To, iv x1.Term, iv x1.A, iv x1.B, iv x1.C, .bool x1.Ok, .slice a27 x21.length cap28]) rfl rfl rfl info28 rfl rfl rfl rfl ho33 fo37 (bl rfl) (by omega) (one1 rfl) rfl (fun H46 hS47 ho48 hk49 => ?_)
 have ho50 := (hk49 _ (by omega)).trans ho34
 have h52 := kB h41 hk49 (Ap.fresh0 (OW.lb h29) (by have := lt11; omega))
 refine wN (eT (wS (wR (WL.loadN .nil (l' := [iv x1.Kind, iv x1.From, iv x1.To, iv x1.Term, iv x1.A, iv x1.B, iv x1.C, .bool x1.Ok, .slice a27 x21.length cap28]) rfl rfl rfl U85 rfl info85 rfl ho48 rfl rfl ?_))))
 refine GL.store hS47 .nil (vc := [iv x1.Kind, iv x1.From, iv x1.To, iv x1.Term, iv x1.A, iv x1.B, iv x1.C, .bool x1.Ok, .slice a27 x21.length cap28]) (c' := [iv x1.Kind, iv x1.From, iv x1.To, iv x1.Term, iv x1.A, iv x1.B, iv x1.C, .bool x1.Ok, .slice a27 x21.length cap28]) rfl rfl rfl info85 rfl rfl rfl rfl ho50 fo38 (bl rfl) (by omega) bxP rfl (fun H53 hS54 ho55 hk56 => ?_)
 have h59 := kB h52 hk56 (Ap.fresh0 (OW.lb h29) (by have := lt18; omega))
 refine wN (eT (W.ret ?_))
 obtain ⟨F60, hS61, hle62, h63, hf64⟩ := OW.freeze h59 hS54
 have hE68 : Ext n0 F0 n22 F60 := ⟨Nat.le_trans hE40.le (by omega), hE40.sub.trans hle62, fun i hi => (hf64 i (fun hj => by have := OW.id_lt h59 hj; omega)).trans (hE40.eq i hi)⟩
 obtain rfl := Option.some.inj hr
 exact ⟨.inr rfl, _, (.cons (.cellN (l := [iv x1.Kind, iv x1.From, iv x1.To, iv x1.Term, iv x1.A, iv x1.B, iv x1.C, .bool x1.Ok, .slice a27 x21.length cap28]) rfl U85 rfl info85 ho55 rfl rfl) .nil), ⟨F60, a27, cap28, (hE68.up (by omega)), hS61, rfl, h63⟩⟩
theorem f_impl_Cluster_records_k {Δ : Prims} (g : Env Try.prog Δ) {lo n0 : Nat} {H0 F0 : Heap} (hS : St lo n0 H0 F0) {p0 : Nat} {x1 : GCluster} {ez0 : Nat} {a2 : Option Addr} {cap3 : Nat} {S6 : Nat → Prop} {a7 : Option Addr} {cap8 : Nat} {a11 : Option Addr} {cap12 : Nat} {x18 : Int} {x19 : Int} (ho15 : H0 p0 = some (.row ez0 [.slice a2 x1.Peers.length cap3, .slice a7 x1.Net.length cap8, .slice a11 x1.Chosen.length cap12, .bool x1.Conflict])) (fo16 : F0 p0 = none) (lo17 : lo ≤ p0) (h4 : OD lo n0 H0 F0 S6 [] (.slice a2 x1.Peers.length cap3) x1.Peers) (h9 : Ow lo n0 H0 F0 a7 cap8 x1.Net) (h13 : Ow lo n0 H0 F0 a11 cap12 x1.Chosen) (ap20 : ¬ S6 p0) (ap21 : nP (.slice a7 x1.Net.length cap8) p0) (ap22 : nS (.slice a7 x1.Net.length cap8) S6) (ap23 : nP (.slice a11 x1.Chosen.length cap12) p0) (ap24 : nS (.slice a11 x1.Chosen.length cap12) S6) (ap25 : nA (.slice a11 x1.Chosen.length cap12) (.slice a7 x1.Net.length cap8)) {res : (GCluster)} (hr : f_impl_Cluster_records x1 x18 x19 = some res) :
    C Try.prog Δ lo 89 [pt p0 0, iv x18, iv x19] n0 H0 (fun v n H => ∃ (F : Heap) (rS2 : Nat → Prop) (ra4 : OA) (rcap5 : Nat) (ra7 : OA) (rcap8 : Nat), Ext n0 F0 n F ∧ St lo n H F ∧ H p0 = some (.row ez0 [.slice a2 x1.Peers.length cap3, .slice ra4 res.Net.length rcap5, .slice ra7 res.Chosen.length rcap8, .bool res.Conflict]) ∧ v = .tuple #[] ∧ OD lo n H F rS2 [] (.slice a2 x1.Peers.length cap3) res.Peers ∧ x1.Peers.length = res.Peers.length ∧ Ow lo n H F ra4 rcap5 res.Net ∧ Ow lo n H F ra7 rcap8 res.Chosen ∧ ¬ rS2 p0 ∧ nP (.slice ra4 res.Net.length rcap5) p0 ∧ nP (.slice ra7 res.Chosen.length rcap8) p0 ∧ nS (.slice ra4 res.Net.length rcap5) rS2 ∧ nS (.slice ra7 res.Chosen.length rcap8) rS2 ∧ nA (.slice ra7 res.Chosen.length rcap8) (.slice ra4 res.Net.length rcap5)) := by
 refine C.body Try.func89 rfl rfl ?_
 unfold f_impl_Cluster_records at hr
 have hS0 : St lo n0 H0 F0 := hS
 have hE0 := Ext.refl n0 F0
 have hlo0 := hS0.lo
 have lt0 := hS0.lt ho15
 refine wS (wR (mN rfl (zN rfl (fN rfl U30 rfl info26 rfl (lN rfl U26 rfl ho15 rfl (mN rfl ?_))))))
 obtain ⟨x26, hx26, hr⟩ := bnd_some hr
 refine GL.indexD .nil rfl rfl rfl U26 info42 rfl rfl h4 rfl hx26 (fun b27 el28 hp29 => ?_)
 refine aN rfl (wN (eT (wS (wR (mN rfl (zN rfl (fN rfl U42 rfl info31 rfl ?_)))))))
 obtain ⟨c30, ecs31, hrow32, hwin33, hb34⟩ := OD.get h4 hp29 hx26
 obtain ⟨a35, cap36, a37, cap38, a39, cap40, a41, cap42, rfl⟩ := GPeer.ofB hb34
 obtain ⟨S43, hs44, hs45, hs46, h47, h48⟩ := GPeer.open_Next h4 hp29 hx26 hrow32 hwin33 (List.forall_mem_nil _)
 refine lN rfl U31 rfl hrow32 (wG 7 hwin33) (mN rfl ?_)
 obtain ⟨x50, hx50, hr⟩ := bnd_some hr
 refine GL.indexO .nil rfl rfl rfl U31 info3 rfl rfl h47 rfl hx50 (fun b51 kp52 c53 ecs54 hid58 hrow55 hwin56 hR57 hup59 => ?_)
 have hcs : _ = ([iv x50] : List Value) := hR57
 subst hcs
 refine lN rfl U3 rfl hrow55 ((win_get0 hwin56 (show (0 : Nat) < 1 by decide)).trans rfl) ?_
 obtain ⟨hc60, hr⟩ := chk_some hr
 refine WL.subI .nil rfl rfl rfl rfl rfl hc60.1 hc60.2 (aN rfl (wN (eT ?_)))
 refine W.regionD [0, 1, 2, 3, 4, 5, 6, 7, 8, 9, 10, 11, 12, 13, 14, 15, 16, 17, 18, 19, 20, 21, 22] [false, false, false, false, false, false, false, false, false, false, false, false, false, false, false, false, false, false, false, false, false, false, true] rfl rfl kr kr mP ?_
 refine mR rfl (mR rfl (mR rfl (mR rfl (zR rfl (fR rfl U42 rfl info3 rfl (lR rfl U3 rfl hrow32 (wG 1 hwin33) (mR rfl (mR rfl (mR rfl ?_)))))))))
 obtain ⟨S61, hs62, hs63, hs64, h65, h66⟩ := GPeer.open_Log h48 hp29 hx26 hrow32 hwin33 (List.forall_mem_cons.2 ⟨fun h => absurd (show (7 : Nat) = 5 from h.2) (by decide), List.forall_mem_nil _⟩)
 obtain ⟨x68, hx68, hr⟩ := bnd_some hr
 refine GL.callP g.good .r rfl rfl rfl rfl rfl rfl Try.func94 rfl rfl (Nat.le_refl _) (f_impl_Peer_term_elem0_k  g hS0 hrow32 hwin33 h65 hx68) (fun v n69 H70 hn71 hk72 hp73 => ?_)
 obtain ⟨hS74, rfl⟩ := hp73
 have ho75 := oA hk72 ho15 lt0
 have h76 := OD.keep (n' := n69) h66 (by omega) (fun i hi => hk72 i (OD.id_lt h66 hi).2)
 have h77 := kA (n' := n69) h9 hk72
 have h78 := kA (n' := n69) h13 hk72
 have h79 := kA (n' := n69) h47 hk72
 have h80 := kA (n' := n69) h65 hk72
 have hS81 : St lo n69 H70 F0 := ⟨by have := hS0.lo; omega, hS74.hb, hS74.fh⟩
 have hlon69 := hS81.lo
 refine mR rfl (zR rfl (fR rfl U42 rfl info3 rfl ?_))
 obtain ⟨c82, ecs83, hrow84, hwin85, hb86⟩ := OD.get h76 hp29 hx26
 obtain ⟨a87, cap88, a89, cap90, a91, cap92, a93, cap94, rfl⟩ := GPeer.ofB hb86
 have hq95 := OD.hole h76 hp29 hx26 hrow84 hwin85
 obtain ⟨rfl, rfl⟩ := hdr_eq (a := a87) (c := cap88) hq95
 have hq96 := OD.hole (OD.swap h76) hp29 hx26 hrow84 hwin85
 obtain ⟨rfl, rfl⟩ := hdr_eq (a := a91) (c := cap92) hq96
 refine lR rfl U3 rfl hrow84 (wG 3 hwin85) (mR rfl (zR rfl (fR rfl U42 rfl info28 rfl (lR rfl U28 rfl hrow84 (wG 5 hwin85) (mR rfl ?_)))))
 obtain ⟨xs97, hxs97, hr⟩ := bnd_some hr
 refine GL.sliceO .r rfl rfl rfl U28 info35 rfl rfl h80 ⟨_, rfl⟩ rfl hxs97 (fun a98 cap99 hid0 h0 => ?_)
 refine WL.buildL .r (cells := [iv 3, iv x18, iv x19, iv x26.Term, iv (x50 - 1), iv x68, iv x26.Commit, .bool false, .slice a98 xs97.length cap99]) rfl rfl rfl U85 info85 rfl rfl rfl (by simp only [List.mapM_cons, List.mapM_nil, info3, info3, info3, info3, info3, info3, info3, info4, info28]; rfl) rfl (by first | rfl | ((conv => lhs; simp [splice, fillL, cells_int, cells_bool, cells_string, cells_str, cells_slice, cells_ptr, cells_map, cells_func, cells_nilFunc, cells_nilIface, cells_iface, cells_agg, cells_u8]) <;> rfl)) ?_
 refine GL.callIn (args := [pt p0 0, .agg [iv 3, iv x18, iv x19, iv x26.Term, iv (x50 - 1), iv x68, iv x26.Commit, .bool false, .slice a98 xs97.length cap99].toArray]) .w lo rfl rfl rfl rfl rfl rfl Try.func55 rfl rfl (Nat.le_refl _) hS81.lo ?_
 refine C.body Try.func55 rfl rfl ?_
 refine wS (wR ?_)
 refine GL.box hS81 .nil (vc := [iv 3, iv x18, iv x19, iv x26.Term, iv (x50 - 1), iv x68, iv x26.Commit, .bool false, .slice a98 xs97.length cap99]) rfl rfl rfl rfl rfl bxP (fun H1 hS1 ho0 hk0 => ?_)
 have ho1 := oA hk0 ho75 lt0
 have h1 := OD.keep (n' := (n69 + 1)) h76 (by omega) (fun i hi => hk0 i (OD.id_lt h76 hi).2)
 have h2 := kA (n' := (n69 + 1)) h77 hk0
 have h3 := kA (n' := (n69 + 1)) h78 hk0
 have h5 := kA (n' := (n69 + 1)) h79 hk0
 have h6 := kA (n' := (n69 + 1)) h80 hk0
 have h7 := kA (n' := (n69 + 1)) h0 hk0
 have hlon0 := hS1.lo
 have lt1 : n69 < (n69 + 1) := by omega
 refine wN (eT (wS (wR (mN rfl (zN rfl (fN rfl U30 rfl info27 rfl (lN rfl U27 rfl ho1 rfl (WL.len .nil rfl rfl rfl U27 rfl (bN rfl rfl (wN (eT ?_)))))))))))
 refine W.condD rfl (fun hc0 => ?_) (fun hc0 => ?_)
 {
 replace hr := ite_pos hr hc0
 refine W.regionI (fun H => True) [0, 1, 2, 3, 4, 5, 6, 7, 8, 9, 10, 11] [(false, true, false), (false, false, false), (false, false, false), (false, false, false), (false, false, false), (false, false, false), (false, false, false), (false, false, false), (true, false, false), (false, false, false), (false, false, false), (true, false, true)] false rfl kr kr mP ?_
 refine WLI.late (v := pt p0 0) (fun h => by cases h) rfl rfl (fun H2 hI2 => .move (.inl rfl) rfl) ?_
 refine oP (mR rfl ?_)
 with_reducible refine WL.nil ⟨rfl, ?_⟩
 refine oP (zR rfl ?_)
 with_reducible refine WL.nil ⟨rfl, ?_⟩
 refine oP (fR rfl U30 rfl info27 rfl ?_)
 with_reducible refine WL.nil ⟨rfl, ?_⟩
 refine oP (lR rfl U27 rfl ho1 rfl ?_)
 with_reducible refine WL.nil ⟨rfl, ?_⟩
 refine oP (WL.loadN .r (l' := [iv 3, iv x18, iv x19, iv x26.Term, iv (x50 - 1), iv x68, iv x26.Commit, .bool false, .slice a98 xs97.length cap99]) rfl rfl rfl U85 rfl info85 rfl ho0 rfl rfl ?_)
 with_reducible refine WL.nil ⟨rfl, ?_⟩
 refine oP ?_
 obtain ⟨x0, hx0, hr⟩ := bnd_some hr
 refine GL.callP g.good .r rfl rfl rfl rfl rfl rfl Try.func64 rfl rfl (Nat.le_refl _) (f__impl_Msg_copied_own0_k (x1 := (⟨3, x18, x19, x26.Term, (x50 - 1), x68, x26.Commit, false, xs97⟩ : GMsg)) g hS1 h7 hx0) (fun v n1 H3 hn0 hk1 hp0 => ?_)
 obtain ⟨F1, a0, cap0, hX0, hS2, rfl, h8⟩ := hp0
 have ho2 := oA hk1 ho1 lt0
 have h10 := OD.keep (n' := n1) h1 (by omega) (fun i hi => hk1 i (OD.id_lt h1 hi).2)
 have h11 := kA (n' := n1) h2 hk1
 have h12 := kA (n' := n1) h3 hk1
 have h14 := kA (n' := n1) h5 hk1
 have h15 := kA (n' := n1) h6 hk1
 have hS3 : St lo n1 H3 F1 := ⟨by have := hS1.lo; omega, hS2.hb, hS2.fh⟩
 have fo0 := fA hX0 lt0 fo16
 have h16 := OD.keepF h10 hX0.sub (fun i hi => (hX0.eq i (by have := OD.id_lt h1 hi; omega)).trans (OD.fnone h10 hi))
 have h17 := OW.keepF h11 hX0.sub (fun i hi => (hX0.eq i (by have := OW.id_lt h2 hi; omega)).trans (OW.fnone h11 hi))
 have h18 := OW.keepF h12 hX0.sub (fun i hi => (hX0.eq i (by have := OW.id_lt h3 hi; omega)).trans (OW.fnone h12 hi))
 have h19 := OW.keepF h14 hX0.sub (fun i hi => (hX0.eq i (by have := OW.id_lt h5 hi; omega)).trans (OW.fnone h14 hi))
 have h20 := OW.keepF h15 hX0.sub (fun i hi => (hX0.eq i (by have := OW.id_lt h6 hi; omega)).trans (OW.fnone h15 hi))
 have hE1 := (hE0.up (n' := (n69 + 1)) (by omega)).trans hX0
 have hlon1 := hS3.lo
 with_reducible refine WL.nil ⟨rfl, ?_⟩
 refine oP ?_
 refine GL.lit (cs := [iv x0.Kind, iv x0.From, iv x0.To, iv x0.Term, iv x0.A, iv x0.B, iv x0.C, .bool x0.Ok, .slice a0 x0.Log.length cap0]) (xs := ([(⟨x0.Kind, x0.From, x0.To, x0.Term, x0.A, x0.B, x0.C, x0.Ok, x0.Log⟩ : GMsg)] : List GMsg)) hS3 .r rfl rfl rfl U27 info85 rfl rfl rfl (by decide) (by decide) rfl rfl rfl rfl rfl (RA.cons (cs := [iv x0.Kind, iv x0.From, iv x0.To, iv x0.Term, iv x0.A, iv x0.B, iv x0.C, .bool x0.Ok, .slice a0 x0.Log.length cap0]) (a := ((⟨x0.Kind, x0.From, x0.To, x0.Term, x0.A, x0.B, x0.C, x0.Ok, x0.Log⟩ : GMsg) : GMsg)) (GMsg.toR (x := (⟨x0.Kind, x0.From, x0.To, x0.Term, x0.A, x0.B, x0.C, x0.Ok, x0.Log⟩ : GMsg)) h8) RA.nil) rfl (fun H4 hS4 hO0 hk2 => ?_)
 have ho3 := oA hk2 ho2 lt0
 have h21 := OD.keep (n' := (n1 + 1)) h16 (by omega) (fun i hi => hk2 i (OD.id_lt h16 hi).2)
 have h22 := kA (n' := (n1 + 1)) h17 hk2
 have h23 := kA (n' := (n1 + 1)) h18 hk2
 have h24 := kA (n' := (n1 + 1)) h19 hk2
 have h25 := kA (n' := (n1 + 1)) h20 hk2
 have h26 := OW.lower (lo' := n0) hO0 (by omega)
 have hlon2 := hS4.lo
 with_reducible refine WL.nil ⟨rfl, ?_⟩
 refine oP ?_
 obtain ⟨hc1, hr⟩ := chk_some hr
 refine GL.append (α := GMsg) hS4 .w rfl rfl rfl U27 U27 rfl info85 rfl rfl rfl (by decide) rfl rfl h22 (by omega) (by omega) (OW.src h26) hc1 (fun a1 cap1 n2 H5 hS5 hn1 hO1 hk3 hid1 => ?_)
 have ho4 := (hk3 _ (by have := lt0; omega) ap21).trans ho3
 have h27 := OD.keep h21 hn1 (fun i hi => hk3 i (OD.id_lt h21 hi).2 (fun hj => (Ap.sym (Ap.sub hs62 (Ap.sub hs44 (Ap.sym ap22)))) _ hj hi))
 have h28 := OW.keep h23 hn1 (fun i hi => hk3 i (OW.id_lt h23 hi).2 (fun hj => (Ap.sym ap25) _ hj hi))
 have h29 := OW.keep h24 hn1 (fun i hi => hk3 i (OW.id_lt h24 hi).2 (fun hj => (Ap.sym (Ap.sub hs45 (Ap.sym ap22))) _ hj hi))
 have h30 := OW.keep h25 hn1 (fun i hi => hk3 i (OW.id_lt h25 hi).2 (fun hj => (Ap.sym (Ap.sub hs63 (Ap.sub hs44 (Ap.sym ap22)))) _ hj hi))
 have hlon3 := hS5.lo
 with_reducible refine WL.nil ⟨rfl, ?_⟩
 refine oP (zR rfl ?_)
 with_reducible refine WL.nil ⟨rfl, ?_⟩
 refine oP (fR rfl U30 rfl info27 rfl ?_)
 with_reducible refine WL.nil ⟨rfl, ?_⟩
 refine WLI.op (fun _ => trivial) ?_
 refine GL.store hS5 .w (vc := [.slice a1 (x1.Net ++ ([(⟨x0.Kind, x0.From, x0.To, x0.Term, x0.A, x0.B, x0.C, x0.Ok, x0.Log⟩ : GMsg)] : List GMsg)).length cap1]) (c' := [.slice a2 x1.Peers.length cap3, .slice a1 (x1.Net ++ ([(⟨x0.Kind, x0.From, x0.To, x0.Term, x0.A, x0.B, x0.C, x0.Ok, x0.Log⟩ : GMsg)] : List GMsg)).length cap1, .slice a11 x1.Chosen.length cap12, .bool x1.Conflict]) rfl rfl rfl info27 rfl rfl rfl rfl ho4 fo0 (bl rfl) lo17 (one1 rfl) rfl (fun H6 hS6 ho5 hk4 => ?_)
 have h31 := OD.keep h27 (Nat.le_refl _) (fun i hi => hk4 i (fun hj => (Ap.sub0 hs62 (Ap.sub0 hs44 ap20)) (hj ▸ hi)))
 have h32 := kB h28 hk4 ap23
 have h33 := kB h29 hk4 (Ap.sub0 hs45 ap20)
 have h34 := kB h30 hk4 (Ap.sub0 hs63 (Ap.sub0 hs44 ap20))
 have h35 := kB hO1 hk4 (Ap.new0 hid1 (by have := lt0; omega) ap21)
 with_reducible refine WL.nil ⟨rfl, ?_⟩
 refine WLI.nil (fun h => by cases h) ?_
 refine ⟨.inl rfl, _, .nil, ?_⟩
 refine wN ?_
 obtain ⟨S0, hs0, h36⟩ := GPeer.close0_Log h31 hx26 h34
 have ap0 : ∀ b, S0 b → idOf (.slice a1 (x1.Net ++ ([(⟨x0.Kind, x0.From, x0.To, x0.Term, x0.A, x0.B, x0.C, x0.Ok, x0.Log⟩ : GMsg)] : List GMsg)).length cap1) ≠ some b := Ap.or hs0 (Ap.sym (Ap.new hid1 (OD.hb h21) (Ap.sym (Ap.sub hs62 (Ap.sub hs44 (Ap.sym ap22)))))) (Ap.sym (Ap.new hid1 (OW.hb h25) (Ap.sym (Ap.sub hs63 (Ap.sub hs44 (Ap.sym ap22))))))
 obtain ⟨S1, hs1, h37⟩ := GPeer.close0_Next h36 hx26 h33
 have ap1 : ¬ S1 p0 := Ap.or0 hs1 (Ap.or0 hs0 (Ap.sub0 hs62 (Ap.sub0 hs44 ap20)) (Ap.sub0 hs63 (Ap.sub0 hs44 ap20))) (Ap.sub0 hs45 ap20)
 have ap2 : Sn S1 (.slice a11 x1.Chosen.length cap12) := Ap.or hs1 (Ap.or hs0 (Ap.sub hs62 (Ap.sub hs44 (Ap.sym ap24))) (Ap.sub hs63 (Ap.sub hs44 (Ap.sym ap24)))) (Ap.sub hs45 (Ap.sym ap24))
 obtain rfl := Option.some.inj hr
 exact ⟨.inl rfl, _, .nil, ⟨F1, S1, a1, cap1, a11, cap12, (hE1.up (by omega)), hS6, ho5, rfl, h37, rfl, h35, h32, ap1, (Ap.new0 hid1 (by have := lt0; omega) ap21), ap23, (Ap.sym (Ap.or hs1 ap0 (Ap.sym (Ap.new hid1 (OW.hb h24) (Ap.sym (Ap.sub hs45 (Ap.sym ap22))))))), (Ap.sym ap2), (Ap.sym (Ap.new hid1 (OW.hb h23) (Ap.sym ap25)))⟩⟩
 }
 {
 replace hr := ite_neg hr hc0
 refine wK ?_
 refine ⟨.inl rfl, _, .nil, ?_⟩
 refine wN ?_
 obtain ⟨S2, hs2, h38⟩ := GPeer.close0_Log h1 hx26 h6
 obtain ⟨S3, hs3, h39⟩ := GPeer.close0_Next h38 hx26 h5
 have ap3 : ¬ S3 p0 := Ap.or0 hs3 (Ap.or0 hs2 (Ap.sub0 hs62 (Ap.sub0 hs44 ap20)) (Ap.sub0 hs63 (Ap.sub0 hs44 ap20))) (Ap.sub0 hs45 ap20)
 have ap4 : Sn S3 (.slice a7 x1.Net.length cap8) := Ap.or hs3 (Ap.or hs2 (Ap.sub hs62 (Ap.sub hs44 (Ap.sym ap22))) (Ap.sub hs63 (Ap.sub hs44 (Ap.sym ap22)))) (Ap.sub hs45 (Ap.sym ap22))
 have ap5 : Sn S3 (.slice a11 x1.Chosen.length cap12) := Ap.or hs3 (Ap.or hs2 (Ap.sub hs62 (Ap.sub hs44 (Ap.sym ap24))) (Ap.sub hs63 (Ap.sub hs44 (Ap.sym ap24)))) (Ap.sub hs45 (Ap.sym ap24))
 obtain rfl := Option.some.inj hr
 exact ⟨.inl rfl, _, .nil, ⟨F0, S3, a7, cap8, a11, cap12, (hE0.up (by omega)), hS1, ho1, rfl, h39, rfl, h2, h3, ap3, ap21, ap23, (Ap.sym ap4), (Ap.sym ap5), ap25⟩⟩
 }
end Go.Proofs.YtlpcdcpcfeaecaaAb
