import Derived.Test.YtlpcdcpcfeaecaaG04
set_option linter.all false
section
set_option maxHeartbeats 1000000
set_option maxRecDepth 20000
namespace Go.Proofs.YtlpcdcpcfeaecaaAb
open Go Go.Proofs
theorem f_impl_Cluster_event_k {Δ : Prims} (g : Env Try.prog Δ) {lo n0 : Nat} {H0 F0 : Heap} (hS : St lo n0 H0 F0) {p0 : Nat} {x1 : GCluster} {ez0 : Nat} {a2 : Option Addr} {cap3 : Nat} {S6 : Nat → Prop} {a7 : Option Addr} {cap8 : Nat} {a11 : Option Addr} {cap12 : Nat} {x18 : GEvent} {a19 : Option Addr} {cap20 : Nat} (ho15 : H0 p0 = some (.row ez0 [.slice a2 x1.Peers.length cap3, .slice a7 x1.Net.length cap8, .slice a11 x1.Chosen.length cap12, .bool x1.Conflict])) (fo16 : F0 p0 = none) (lo17 : lo ≤ p0) (h4 : OD lo n0 H0 F0 S6 [] (.slice a2 x1.Peers.length cap3) x1.Peers) (h9 : Ow lo n0 H0 F0 a7 cap8 x1.Net) (h13 : Ow lo n0 H0 F0 a11 cap12 x1.Chosen) (h21 : SR F0 (.slice a19 x18.Data.length cap20) x18.Data) (ap22 : ¬ S6 p0) (ap23 : nP (.slice a7 x1.Net.length cap8) p0) (ap24 : nS (.slice a7 x1.Net.length cap8) S6) (ap25 : nP (.slice a11 x1.Chosen.length cap12) p0) (ap26 : nS (.slice a11 x1.Chosen.length cap12) S6) (ap27 : nA (.slice a11 x1.Chosen.length cap12) (.slice a7 x1.Net.length cap8)) {res : (GCluster × Int)} (hr : f_impl_Cluster_event x1 x18 = some res) :
    C Try.prog Δ lo 32 [pt p0 0, .agg [iv x18.Kind, iv x18.N, .slice a19 x18.Data.length cap20].toArray] n0 H0 (fun v n H => ∃ (F : Heap) (rS2 : Nat → Prop) (ra4 : OA) (rcap5 : Nat) (ra7 : OA) (rcap8 : Nat), Ext n0 F0 n F ∧ St lo n H F ∧ H p0 = some (.row ez0 [.slice a2 x1.Peers.length cap3, .slice ra4 res.1.Net.length rcap5, .slice ra7 res.1.Chosen.length rcap8, .bool res.1.Conflict]) ∧ v = iv res.2 ∧ OD lo n H F rS2 [] (.slice a2 x1.Peers.length cap3) res.1.Peers ∧ x1.Peers.length = res.1.Peers.length ∧ Ow lo n H F ra4 rcap5 res.1.Net ∧ Ow lo n H F ra7 rcap8 res.1.Chosen ∧ ¬ rS2 p0 ∧ nP (.slice ra4 res.1.Net.length rcap5) p0 ∧ nP (.slice ra7 res.1.Chosen.length rcap8) p0 ∧ nS (.slice ra4 res.1.Net.length rcap5) rS2 ∧ nS (.slice ra7 res.1.Chosen.length rcap8) rS2 ∧ nA (.slice ra7 res.1.Chosen.length rcap8) (.slice ra4 res.1.Net.length rcap5)) := by
 refine C.body Try.func32 rfl rfl ?_
 unfold f_impl_Cluster_event at hr
 have hS0 : St lo n0 H0 F0 := hS
 have hE0 := Ext.refl n0 F0
 have hlo0 := hS0.lo
 have lt0 := hS0.lt ho15
 refine wS (wR ?_)
 refine GL.box hS0 .nil (vc := [iv x18.Kind, iv x18.N, .slice a19 x18.Data.length cap20]) rfl rfl rfl rfl rfl bxP (fun H28 hS29 ho30 hk31 => ?_)
 have fo32 := hS0.fnone (Nat.le_refl _)
 have ho34 := oA hk31 ho15 lt0
 have h35 := OD.keep (n' := (n0 + 1)) h4 (by omega) (fun i hi => hk31 i (OD.id_lt h4 hi).2)
 have h36 := kA (n' := (n0 + 1)) h9 hk31
 have h37 := kA (n' := (n0 + 1)) h13 hk31
 have hlon01 := hS29.lo
 have lt33 : n0 < (n0 + 1) := by omega
 refine aN rfl (wN (eT (wS (wS (wR (fN rfl U24 rfl info3 rfl (lN rfl U3 rfl ho30 rfl (wN (eT (W.block (wS ?_)))))))))))
 refine wS (wR (bN rfl rfl (aN rfl (wN (eT ?_)))))
 refine W.cut (fun fr n H => ∃ (x0 : Bool) (S0 : Nat → Prop) (F : Heap), fr = [(0, pt p0 0), (3, pt n0 0), (8, iv x18.Kind), (9, .bool x0)] ∧ St lo n H F ∧ Ext n0 F0 n F ∧ H n0 = some (.row 1 [iv x18.Kind, iv x18.N, .slice a19 x18.Data.length cap20]) ∧ F n0 = none ∧ H p0 = some (.row ez0 [.slice a2 x1.Peers.length cap3, .slice a7 x1.Net.length cap8, .slice a11 x1.Chosen.length cap12, .bool x1.Conflict]) ∧ F p0 = none ∧ SR F (.slice a19 x18.Data.length cap20) x18.Data ∧ OD lo n H F S0 [] (.slice a2 x1.Peers.length cap3) x1.Peers ∧ Ow lo n H F a7 cap8 x1.Net ∧ Ow lo n H F a11 cap12 x1.Chosen ∧ ¬ S0 n0 ∧ ¬ S0 p0 ∧ nP (.slice a7 x1.Net.length cap8) n0 ∧ nP (.slice a7 x1.Net.length cap8) p0 ∧ nS (.slice a7 x1.Net.length cap8) S0 ∧ nP (.slice a11 x1.Chosen.length cap12) n0 ∧ nP (.slice a11 x1.Chosen.length cap12) p0 ∧ nS (.slice a11 x1.Chosen.length cap12) S0 ∧ nA (.slice a11 x1.Chosen.length cap12) (.slice a7 x1.Net.length cap8) ∧ f_impl_Cluster_event_J0 x1 x18 x0 = some res) ?_ ?_
 {
 refine W.condD rfl (fun hc0 => ?_) (fun hc0 => ?_)
 {
 replace hr := ite_pos hr hc0
 refine wK (eT ?_)
 exact ⟨[(0, pt p0 0), (3, pt n0 0), (8, iv x18.Kind), (9, .bool (decide (x18.Kind = 2)))], (fl4), (decide (x18.Kind = 2)), S6, F0, rfl, hS29, (hE0.up (by omega)), ho30, fo32, ho34, fo16, h21, h35, h36, h37, (aD h4), ap22, (aW h9), ap23, ap24, (aW h13), ap25, ap26, ap27, hr⟩
 }
 {
 replace hr := ite_neg hr hc0
 refine wS (wR (bN rfl rfl (aN rfl (wN (eT ?_)))))
 refine W.condD rfl (fun hc1 => ?_) (fun hc1 => ?_)
 {
 replace hr := ite_pos hr hc1
 refine wK (eT ?_)
 exact ⟨[(0, pt p0 0), (3, pt n0 0), (8, iv x18.Kind), (9, .bool (decide (x18.Kind = 3)))], (fl4), (decide (x18.Kind = 3)), S6, F0, rfl, hS29, (hE0.up (by omega)), ho30, fo32, ho34, fo16, h21, h35, h36, h37, (aD h4), ap22, (aW h9), ap23, ap24, (aW h13), ap25, ap26, ap27, hr⟩
 }
 {
 replace hr := ite_neg hr hc1
 refine wR (bN rfl rfl (aN rfl (wN (eT ?_))))
 exact ⟨[(0, pt p0 0), (3, pt n0 0), (8, iv x18.Kind), (9, .bool (decide (x18.Kind = 4)))], (fl4), (decide (x18.Kind = 4)), S6, F0, rfl, hS29, (hE0.up (by omega)), ho30, fo32, ho34, fo16, h21, h35, h36, h37, (aD h4), ap22, (aW h9), ap23, ap24, (aW h13), ap25, ap26, ap27, hr⟩
 }
 }
 }
 {
 intro _ n1 H1 hI
 obtain ⟨x0, S0, F1, rfl, hS1, hE1, ho0, fo0, ho1, fo1, h0, h1, h2, h3, ap0, ap1, ap2, ap3, ap4, ap5, ap6, ap7, ap8, hr⟩ := hI
 have lt1 := hS1.lt ho0
 have lt2 := hS1.lt ho1
 have hlen0 := hE1.le
 have hlon0 := hS1.lo
 unfold f_impl_Cluster_event_J0 at hr
 refine W.cond rfl (fun hc2 => ?_) (fun hc2 => ?_)
 {
 replace hr := iteB_pos hr hc2
 refine wS (wS ?_)
 refine W.regionD r10 f10 rfl rfl kr kr mP ?_
 refine fR rfl U24 rfl info3 rfl (lR rfl U3 rfl ho0 rfl (mR rfl (zR rfl (fR rfl U30 rfl info27 rfl (lR rfl U27 rfl ho1 rfl (WL.len .r rfl rfl rfl U27 rfl ?_))))))
 obtain ⟨hc3, hr⟩ := chk_some hr
 refine WL.subI .r rfl rfl rfl rfl rfl hc3.1 hc3.2 ?_
 obtain ⟨x2, hx0, hr⟩ := bnd_some hr
 refine GL.callP g.good .r rfl rfl rfl rfl rfl rfl Try.func30 rfl rfl (Nat.le_refl _) (f_impl_within_k  g hS1 hx0) (fun v n2 H3 hn0 hk0 hp0 => ?_)
 obtain ⟨hS2, rfl⟩ := hp0
 have ho2 := oA hk0 ho0 lt1
 have ho3 := oA hk0 ho1 lt2
 have h5 := OD.keep (n' := n2) h1 (by omega) (fun i hi => hk0 i (OD.id_lt h1 hi).2)
 have h6 := kA (n' := n2) h2 hk0
 have h7 := kA (n' := n2) h3 hk0
 have hS3 : St lo n2 H3 F1 := ⟨by have := hS1.lo; omega, hS2.hb, hS2.fh⟩
 have hlon1 := hS3.lo
 refine WL.not .r rfl rfl rfl rfl (wN (eT ?_))
 refine W.cond rfl (fun hc4 => ?_) (fun hc4 => ?_)
 {
 replace hr := iteB_pos hr hc4
 refine wS (wR (aN rfl (wN (eT (W.ret (eR (Ex.blk_ret (eR ?_))))))))
 obtain rfl := Option.some.inj hr
 exact ⟨.inr rfl, _, (.cons (.tmp rfl) .nil), ⟨F1, S0, a7, cap8, a11, cap12, (hE1.up (by omega)), hS3, ho3, rfl, h5, rfl, h6, h7, ap1, ap3, ap6, ap4, ap7, ap8⟩⟩
 }
 {
 replace hr := iteB_neg hr hc4
 refine wK (eT (wS ?_))
 refine W.regionD [0, 1, 2, 3, 4, 5, 6, 7, 8, 9] [false, false, false, false, false, false, false, false, false, true] rfl rfl kr kr mP ?_
 refine mR rfl (zR rfl (fR rfl U30 rfl info27 rfl (lR rfl U27 rfl ho3 rfl (fR rfl U24 rfl info3 rfl (lR rfl U3 rfl ho2 rfl ?_)))))
 obtain ⟨x3, hx1, hr⟩ := bnd_some hr
 refine GL.indexO .r rfl rfl rfl U27 info85 rfl rfl h6 rfl hx1 (fun b0 kp0 c0 ecs0 hid0 hrow0 hwin0 hR0 hup0 => ?_)
 obtain ⟨a0, cap0, rfl, h8⟩ := GMsg.ofR hR0
 refine WL.loadN .r (l' := [iv x3.Kind, iv x3.From, iv x3.To, iv x3.Term, iv x3.A, iv x3.B, iv x3.C, .bool x3.Ok, .slice a0 x3.Log.length cap0]) rfl rfl rfl U85 rfl info85 rfl hrow0 hwin0 rfl ?_
 refine GL.alloc hS3 .r (zc := [iv 0, iv 0, iv 0, iv 0, iv 0, iv 0, iv 0, .bool false, .slice none 0 0]) rfl rfl rfl info85 rfl rfl rfl (fun H4 hS4 ho4 hk1 => ?_)
 have fo2 := hS3.fnone (Nat.le_refl _)
 have ho5 := oA hk1 ho2 lt1
 have ho6 := oA hk1 ho3 lt2
 have h10 := OD.keep (n' := (n2 + 1)) h5 (by omega) (fun i hi => hk1 i (OD.id_lt h5 hi).2)
 have h11 := kA (n' := (n2 + 1)) h6 hk1
 have h12 := kA (n' := (n2 + 1)) h7 hk1
 have hlon2 := hS4.lo
 have lt3 : n2 < (n2 + 1) := by omega
 refine GL.store hS4 .w (vc := [iv x3.Kind, iv x3.From, iv x3.To, iv x3.Term, iv x3.A, iv x3.B, iv x3.C, .bool x3.Ok, .slice a0 x3.Log.length cap0]) (c' := [iv x3.Kind, iv x3.From, iv x3.To, iv x3.Term, iv x3.A, iv x3.B, iv x3.C, .bool x3.Ok, .slice a0 x3.Log.length cap0]) rfl rfl rfl info85 rfl rfl rfl rfl ho4 fo2 (bl rfl) (by omega) bxP rfl (fun H5 hS5 ho7 hk2 => ?_)
 have ho8 := (hk2 _ (by omega)).trans ho5
 have ho9 := (hk2 _ (by omega)).trans ho6
 have h14 := OD.keep h10 (Nat.le_refl _) (fun i hi => hk2 i (fun hj => (aD h5) (hj ▸ hi)))
 have h15 := kB h11 hk2 (aW h6)
 have h16 := kB h12 hk2 (aW h7)
 refine wN (eT (wS (wS (wR (fN rfl U24 rfl info3 rfl (lN rfl U3 rfl ho8 rfl (bN rfl rfl (wN (eT ?_)))))))))
 refine W.condD rfl (fun hc5 => ?_) (fun hc5 => ?_)
 {
 replace hr := ite_pos hr hc5
 refine wS (wR (mN rfl (WL.loadN .nil (l' := [iv x3.Kind, iv x3.From, iv x3.To, iv x3.Term, iv x3.A, iv x3.B, iv x3.C, .bool x3.Ok, .slice a0 x3.Log.length cap0]) rfl rfl rfl U85 rfl info85 rfl ho7 rfl rfl ?_)))
 obtain ⟨x4, hx2, hr⟩ := bnd_some hr
 refine GL.callIO g .nil (fun i => (F1 i).isSome = true ∨ i = p0 ∨ S0 i ∨ idOf (.slice a7 x1.Net.length cap8) = some i ∨ idOf (.slice a11 x1.Chosen.length cap12) = some i) rfl rfl rfl rfl rfl rfl Try.func55 rfl rfl (Nat.le_refl _) hS5.lo (f_impl_Cluster_send_k (x1 := (⟨x1.Peers, x1.Net, x1.Chosen, x1.Conflict⟩ : GCluster)) (x18 := (⟨x3.Kind, x3.From, x3.To, x3.Term, x3.A, x3.B, x3.C, x3.Ok, x3.Log⟩ : GMsg)) g (St.vis hS5 (fun i hi => .inl hi)) (vis_get ho9 (.inr (.inl rfl))) fo1 lo17 (OD.vis h14 (fun i hi => (.inr (.inr (.inl hi))))) (OW.vis h15 (fun i hi => (.inr (.inr (.inr (.inl hi)))))) (OW.vis h16 (fun i hi => (.inr (.inr (.inr (.inr (hi))))))) h8 ap1 ap3 ap4 ap6 ap7 ap8 hx2) (fun v n3 H6 H7 hn1 hp1 hle0 hnew0 hk3 hd0 => ?_)
 obtain ⟨F2, S1, a1, cap1, a3, cap2, hX0, hS6, ho10, rfl, h17, hl0, h18, h19, ap9, ap10, ap11, ap12, ap13, ap14⟩ := hp1
 have hS7 : St lo n3 H6 _ := sA hS6 hnew0 hle0
 have ho11 := (hk3 _ (by have := lt1; omega) (oE5 (nF fo0) (by omega) ap0 ap2 ap5)).trans ho8
 have ho12 := (hk3 _ (by have := lt3; omega) (oE5 (nF fo2) (by omega) (aD h5) (aW h6) (aW h7))).trans ho7
 have hE2 := (hE1.up (n' := (n2 + 1)) (by omega)).trans hX0
 have ho13 := hle0 _ _ ho10
 have h20 := OD.le h17 hle0
 have hl1 : x1.Peers.length = x4.Peers.length := hl0
 have h22 := OW.le h18 hle0
 have h23 := OW.le h19 hle0
 have hlon3 := hS7.lo
 have lt4 := hS7.lt ho11
 have lt5 := hS7.lt ho13
 have lt6 := hS7.lt ho12
 refine wN (eT (wS (wR (aN rfl (wN (eT (W.ret (eR (Ex.blk_ret (eR ?_))))))))))
 obtain rfl := Option.some.inj hr
 exact ⟨.inr rfl, _, (.cons (.tmp rfl) .nil), ⟨F2, S1, a1, cap1, a3, cap2, (hE2.up (by omega)), hS7, ho13, rfl, h20, hl1, h22, h23, ap9, ap10, ap11, ap12, ap13, ap14⟩⟩
 }
 {
 replace hr := ite_neg hr hc5
 refine wK (eT (wS ?_))
 refine W.regionI (fun H => True) [0, 1, 2, 3, 4, 5, 6, 7, 8, 9, 10, 11, 12, 13] [(false, true, false), (false, false, false), (false, false, false), (false, false, false), (false, false, false), (false, false, false), (false, false, false), (false, false, false), (false, false, false), (false, false, false), (true, false, false), (false, false, false), (false, false, false), (true, false, true)] false rfl kr kr mP ?_
 refine WLI.late (v := pt p0 0) (fun h => by cases h) rfl rfl (fun H2 hI2 => .move (.inl rfl) rfl) ?_
 refine oP (mR rfl ?_)
 with_reducible refine WL.nil ⟨rfl, ?_⟩
 refine oP (zR rfl ?_)
 with_reducible refine WL.nil ⟨rfl, ?_⟩
 refine oP (fR rfl U30 rfl info27 rfl ?_)
 with_reducible refine WL.nil ⟨rfl, ?_⟩
 refine oP (lR rfl U27 rfl ho9 rfl ?_)
 with_reducible refine WL.nil ⟨rfl, ?_⟩
 refine oP (fR rfl U24 rfl info3 rfl ?_)
 with_reducible refine WL.nil ⟨rfl, ?_⟩
 refine oP (lR rfl U3 rfl ho8 rfl ?_)
 with_reducible refine WL.nil ⟨rfl, ?_⟩
 refine oP (fR rfl U24 rfl info3 rfl ?_)
 with_reducible refine WL.nil ⟨rfl, ?_⟩
 refine oP (lR rfl U3 rfl ho8 rfl ?_)
 with_reducible refine WL.nil ⟨rfl, ?_⟩
 refine oP ?_
 obtain ⟨hc6, hr⟩ := chk_some hr
 refine WL.addI .r rfl rfl rfl rfl rfl hc6.1 hc6.2 ?_
 with_reducible refine WL.nil ⟨rfl, ?_⟩
 refine oP ?_
 obtain ⟨xs0, hxs0, hr⟩ := bnd_some hr
 refine GL.callIn (args := [.slice a7 x1.Net.length cap8, iv x18.N, iv (x18.N + 1)]) .w lo rfl rfl rfl rfl rfl rfl Try.func56 rfl rfl (Nat.le_refl _) hS5.lo ((f_slices_Delete_implMsg_k g hS5 h15 (by omega) hxs0).mono fun _ n4 H8 hp => ?_)
 obtain ⟨a4, cap4, hn2, hS8, rfl, hO0, hk4, hid1⟩ := hp
 subst hn2
 have ho14 := (hk4 _ ap2).trans ho8
 have ho16 := (hk4 _ ap3).trans ho9
 have ho17 := (hk4 _ (aW h6)).trans ho7
 have h24 := OD.keep h14 (Nat.le_refl _) (fun i hi => hk4 i (fun hj => ap4 _ hj hi))
 have h25 := OW.keep h16 (Nat.le_refl _) (fun i hi => hk4 i (fun hj => (Ap.sym ap8) _ hj hi))
 with_reducible refine WL.nil ⟨rfl, ?_⟩
 refine oP (zR rfl ?_)
 with_reducible refine WL.nil ⟨rfl, ?_⟩
 refine oP (fR rfl U30 rfl info27 rfl ?_)
 with_reducible refine WL.nil ⟨rfl, ?_⟩
 refine WLI.op (fun _ => trivial) ?_
 refine GL.store hS8 .w (vc := [.slice a4 xs0.length cap4]) (c' := [.slice a2 x1.Peers.length cap3, .slice a4 xs0.length cap4, .slice a11 x1.Chosen.length cap12, .bool x1.Conflict]) rfl rfl rfl info27 rfl rfl rfl rfl ho16 fo1 (bl rfl) lo17 (one1 rfl) rfl (fun H9 hS9 ho18 hk5 => ?_)
 have ho19 := (hk5 _ (by omega)).trans ho14
 have ho20 := (hk5 _ (by omega)).trans ho17
 have h26 := OD.keep h24 (Nat.le_refl _) (fun i hi => hk5 i (fun hj => ap1 (hj ▸ hi)))
 have h27 := kB h25 hk5 ap6
 have h28 := kB hO0 hk5 (Ap.sub0 hid1 ap3)
 with_reducible refine WL.nil ⟨rfl, ?_⟩
 refine WLI.nil (fun h => by cases h) ?_
 refine eT (wS (wS (wR (fN rfl U24 rfl info3 rfl (lN rfl U3 rfl ho19 rfl (bN rfl rfl (wN (eT ?_))))))))
 refine W.condD rfl (fun hc7 => ?_) (fun hc7 => ?_)
 {
 replace hr := ite_pos hr hc7
 refine wR (mN rfl (WL.loadN .nil (l' := [iv x3.Kind, iv x3.From, iv x3.To, iv x3.Term, iv x3.A, iv x3.B, iv x3.C, .bool x3.Ok, .slice a0 x3.Log.length cap0]) rfl rfl rfl U85 rfl info85 rfl ho20 rfl rfl ?_))
 obtain ⟨x5, hx3, hr⟩ := bnd_some hr
 refine GL.callIO g .nil (fun i => (F1 i).isSome = true ∨ i = p0 ∨ S0 i ∨ idOf (.slice a4 xs0.length cap4) = some i ∨ idOf (.slice a11 x1.Chosen.length cap12) = some i) rfl rfl rfl rfl rfl rfl Try.func57 rfl rfl (Nat.le_refl _) hS9.lo (f_impl_Cluster_arrive_k (x1 := (⟨x1.Peers, xs0, x1.Chosen, x1.Conflict⟩ : GCluster)) (x18 := (⟨x3.Kind, x3.From, x3.To, x3.Term, x3.A, x3.B, x3.C, x3.Ok, x3.Log⟩ : GMsg)) g (St.vis hS9 (fun i hi => .inl hi)) (vis_get ho18 (.inr (.inl rfl))) fo1 lo17 (OD.vis h26 (fun i hi => (.inr (.inr (.inl hi))))) (OW.vis h28 (fun i hi => (.inr (.inr (.inr (.inl hi)))))) (OW.vis h27 (fun i hi => (.inr (.inr (.inr (.inr (hi))))))) h8 ap1 (Ap.sub0 hid1 ap3) (Ap.sub hid1 ap4) ap6 ap7 (Ap.sym (Ap.sub hid1 (Ap.sym ap8))) hx3) (fun v n5 H10 H11 hn3 hp2 hle1 hnew1 hk6 hd1 => ?_)
 obtain ⟨F3, S2, a5, cap5, a6, cap6, hX1, hS10, ho21, rfl, h29, hl2, h30, h31, ap15, ap16, ap17, ap18, ap19, ap20⟩ := hp2
 have hS11 : St lo n5 H10 _ := sA hS10 hnew1 hle1
 have ho22 := (hk6 _ (by have := lt1; omega) (oE5 (nF fo0) (by omega) ap0 (Ap.sub0 hid1 ap2) ap5)).trans ho19
 have ho23 := (hk6 _ (by have := lt3; omega) (oE5 (nF fo2) (by omega) (aD h5) (Ap.sub0 hid1 (aW h6)) (aW h7))).trans ho20
 have hE3 := (hE1.up (n' := (n2 + 1)) (by omega)).trans hX1
 have ho24 := hle1 _ _ ho21
 have h32 := OD.le h29 hle1
 have hl3 : x1.Peers.length = x5.Peers.length := hl2
 have h33 := OW.le h30 hle1
 have h34 := OW.le h31 hle1
 have hlon4 := hS11.lo
 have lt7 := hS11.lt ho22
 have lt8 := hS11.lt ho24
 have lt9 := hS11.lt ho23
 refine wN (eT (wS (wR (aN rfl (wN (eT (W.ret (Ex.blk_ret (eR ?_)))))))))
 obtain rfl := Option.some.inj hr
 exact ⟨.inr rfl, _, (.cons (.tmp rfl) .nil), ⟨F3, S2, a5, cap5, a6, cap6, (hE3.up (by omega)), hS11, ho24, rfl, h32, hl3, h33, h34, ap15, ap16, ap17, ap18, ap19, ap20⟩⟩
 }
 {
 replace hr := ite_neg hr hc7
 refine wK (eT (wS (wR (aN rfl (wN (eT (W.ret (Ex.blk_ret (eR ?_)))))))))
 obtain rfl := Option.some.inj hr
 exact ⟨.inr rfl, _, (.cons (.tmp rfl) .nil), ⟨F1, S0, a4, cap4, a11, cap12, (hE1.up (by omega)), hS9, ho18, rfl, h26, rfl, h28, h27, ap1, (Ap.sub0 hid1 ap3), ap6, (Ap.sub hid1 ap4), ap7, (Ap.sym (Ap.sub hid1 (Ap.sym ap8)))⟩⟩
 }
 }
 }
 }
 {
 replace hr := iteB_neg hr hc2
 refine wS (wS (wR (bN rfl rfl (aN rfl (wN (eT ?_))))))
 refine W.cut (fun fr n H => ∃ (x6 : Bool) (S3 : Nat → Prop) (F : Heap), fr = [(0, pt p0 0), (3, pt n0 0), (56, .bool x6)] ∧ St lo n H F ∧ Ext n0 F0 n F ∧ H n0 = some (.row 1 [iv x18.Kind, iv x18.N, .slice a19 x18.Data.length cap20]) ∧ F n0 = none ∧ H p0 = some (.row ez0 [.slice a2 x1.Peers.length cap3, .slice a7 x1.Net.length cap8, .slice a11 x1.Chosen.length cap12, .bool x1.Conflict]) ∧ F p0 = none ∧ SR F (.slice a19 x18.Data.length cap20) x18.Data ∧ OD lo n H F S3 [] (.slice a2 x1.Peers.length cap3) x1.Peers ∧ Ow lo n H F a7 cap8 x1.Net ∧ Ow lo n H F a11 cap12 x1.Chosen ∧ ¬ S3 n0 ∧ ¬ S3 p0 ∧ nP (.slice a7 x1.Net.length cap8) n0 ∧ nP (.slice a7 x1.Net.length cap8) p0 ∧ nS (.slice a7 x1.Net.length cap8) S3 ∧ nP (.slice a11 x1.Chosen.length cap12) n0 ∧ nP (.slice a11 x1.Chosen.length cap12) p0 ∧ nS (.slice a11 x1.Chosen.length cap12) S3 ∧ nA (.slice a11 x1.Chosen.length cap12) (.slice a7 x1.Net.length cap8) ∧ f_impl_Cluster_event_J1 x1 x18 x6 = some res) ?_ ?_
 {
 refine W.condD rfl (fun hc8 => ?_) (fun hc8 => ?_)
 {
 replace hr := ite_pos hr hc8
 refine wK (eT ?_)
 exact ⟨[(0, pt p0 0), (3, pt n0 0), (56, .bool (decide (x18.Kind = 1)))], (fl3), (decide (x18.Kind = 1)), S0, F1, rfl, hS1, hE1, ho0, fo0, ho1, fo1, h0, h1, h2, h3, ap0, ap1, ap2, ap3, ap4, ap5, ap6, ap7, ap8, hr⟩
 }
 {
 replace hr := ite_neg hr hc8
 refine wS (wR (bN rfl rfl (aN rfl (wN (eT ?_)))))
 refine W.condD rfl (fun hc9 => ?_) (fun hc9 => ?_)
 {
 replace hr := ite_pos hr hc9
 refine wK (eT ?_)
 exact ⟨[(0, pt p0 0), (3, pt n0 0), (56, .bool (decide (x18.Kind = 5)))], (fl3), (decide (x18.Kind = 5)), S0, F1, rfl, hS1, hE1, ho0, fo0, ho1, fo1, h0, h1, h2, h3, ap0, ap1, ap2, ap3, ap4, ap5, ap6, ap7, ap8, hr⟩
 }
 {
 replace hr := ite_neg hr hc9
 refine wS (wR (bN rfl rfl (aN rfl (wN (eT ?_)))))
 refine W.condD rfl (fun hc10 => ?_) (fun hc10 => ?_)
 {
 replace hr := ite_pos hr hc10
 refine wK (eT ?_)
 exact ⟨[(0, pt p0 0), (3, pt n0 0), (56, .bool (decide (x18.Kind = 6)))], (fl3), (decide (x18.Kind = 6)), S0, F1, rfl, hS1, hE1, ho0, fo0, ho1, fo1, h0, h1, h2, h3, ap0, ap1, ap2, ap3, ap4, ap5, ap6, ap7, ap8, hr⟩
 }
 {
 replace hr := ite_neg hr hc10
 refine wR (bN rfl rfl (aN rfl (wN (eT ?_))))
 exact ⟨[(0, pt p0 0), (3, pt n0 0), (56, .bool (decide (x18.Kind = 7)))], (fl3), (decide (x18.Kind = 7)), S0, F1, rfl, hS1, hE1, ho0, fo0, ho1, fo1, h0, h1, h2, h3, ap0, ap1, ap2, ap3, ap4, ap5, ap6, ap7, ap8, hr⟩
 }
 }
 }
 }
 {
 intro _ n6 H12 hI
 obtain ⟨x6, S3, F4, rfl, hS12, hE4, ho25, fo3, ho26, fo4, h38, h39, h40, h41, ap21, ap28, ap29, ap30, ap31, ap32, ap33, ap34, ap35, hr⟩ := hI
 have lt10 := hS12.lt ho25
 have lt11 := hS12.lt ho26
 have hlen1 := hE4.le
 have hlon5 := hS12.lo
 unfold f_impl_Cluster_event_J1 at hr
 refine W.cond rfl (fun hc11 => ?_) (fun hc11 => ?_)
 {
 replace hr := iteB_pos hr hc11
 refine wK (eB (eT (wS (wS ?_))))
 refine W.regionD r10 f10 rfl rfl kr kr mP ?_
 refine fR rfl U24 rfl info3 rfl (lR rfl U3 rfl ho25 rfl (mR rfl (zR rfl (fR rfl U30 rfl info26 rfl (lR rfl U26 rfl ho26 rfl (WL.len .r rfl rfl rfl U26 rfl ?_))))))
 obtain ⟨hc12, hr⟩ := chk_some hr
 refine WL.subI .r rfl rfl rfl rfl rfl hc12.1 hc12.2 ?_
 obtain ⟨x7, hx4, hr⟩ := bnd_some hr
 refine GL.callP g.good .r rfl rfl rfl rfl rfl rfl Try.func30 rfl rfl (Nat.le_refl _) (f_impl_within_k  g hS12 hx4) (fun v n7 H13 hn4 hk7 hp3 => ?_)
 obtain ⟨hS13, rfl⟩ := hp3
 have ho27 := oA hk7 ho25 lt10
 have ho28 := oA hk7 ho26 lt11
 have h42 := OD.keep (n' := n7) h39 (by omega) (fun i hi => hk7 i (OD.id_lt h39 hi).2)
 have h43 := kA (n' := n7) h40 hk7
 have h44 := kA (n' := n7) h41 hk7
 have hS14 : St lo n7 H13 F4 := ⟨by have := hS12.lo; omega, hS13.hb, hS13.fh⟩
 have hlon6 := hS14.lo
 refine WL.not .r rfl rfl rfl rfl (wN (eT ?_))
 refine W.cond rfl (fun hc13 => ?_) (fun hc13 => ?_)
 {
 replace hr := iteB_pos hr hc13
 refine wS (wR (aN rfl (wN (eT (W.ret (eR ?_))))))
 obtain rfl := Option.some.inj hr
 exact ⟨.inr rfl, _, (.cons (.tmp rfl) .nil), ⟨F4, S3, a7, cap8, a11, cap12, (hE4.up (by omega)), hS14, ho28, rfl, h42, rfl, h43, h44, ap28, ap30, ap33, ap31, ap34, ap35⟩⟩
 }
 {
 replace hr := iteB_neg hr hc13
 refine wK (eT (wS ?_))
 refine W.regionD r8 f8 rfl rfl kr kr mP ?_
 refine mR rfl (zR rfl (fR rfl U30 rfl info26 rfl (lR rfl U26 rfl ho28 rfl (fR rfl U24 rfl info3 rfl (lR rfl U3 rfl ho27 rfl ?_)))))
 obtain ⟨x8, hx5, hr⟩ := bnd_some hr
 refine GL.indexD .r rfl rfl rfl U26 info42 rfl rfl h42 rfl hx5 (fun b1 el0 hp4 => ?_)
 refine aR rfl (wN (eT (wS (wS ?_))))
 refine W.regionD r8 f8 rfl rfl kr kr mP ?_
 refine mR rfl (zR rfl (fR rfl U42 rfl info4 rfl ?_))
 obtain ⟨c1, ecs1, hrow1, hwin1, hb0⟩ := OD.get h42 hp4 hx5
 obtain ⟨a8, cap7, a9, cap9, a10, cap10, a12, cap11, rfl⟩ := GPeer.ofB hb0
 refine lR rfl U4 rfl hrow1 ((win_get0 hwin1 (show (0 : Nat) < 9 by decide)).trans rfl) (fR rfl U24 rfl info3 rfl (lR rfl U3 rfl ho27 rfl (bR rfl rfl ?_)))
 refine WL.eqBool .r rfl rfl rfl (by decide) U4 rfl rfl ?_
 refine wN (eT ?_)
 refine W.cond rfl (fun hc14 => ?_) (fun hc14 => ?_)
 {
 replace hr := iteB_pos hr hc14
 refine wS (wR (aN rfl (wN (eT (W.ret (eR ?_))))))
 obtain rfl := Option.some.inj hr
 exact ⟨.inr rfl, _, (.cons (.tmp rfl) .nil), ⟨F4, S3, a7, cap8, a11, cap12, (hE4.up (by omega)), hS14, ho28, rfl, h42, rfl, h43, h44, ap28, ap30, ap33, ap31, ap34, ap35⟩⟩
 }
 {
 replace hr := iteB_neg hr hc14
 refine wK (eT (wS (wS (wR (fN rfl U24 rfl info3 rfl (lN rfl U3 rfl ho27 rfl (wN (eT (W.block (wS (wR ?_)))))))))))
 refine bN rfl rfl (aN rfl (wN (eT ?_)))
 refine W.condD rfl (fun hc15 => ?_) (fun hc15 => ?_)
 {
 replace hr := ite_pos hr hc15
 refine wR (mN rfl (fN rfl U24 rfl info3 rfl (lN rfl U3 rfl ho27 rfl ?_)))
 obtain ⟨x9, hx6, hr⟩ := bnd_some hr
 refine GL.callIO g .nil (fun i => (F4 i).isSome = true ∨ i = p0 ∨ S3 i ∨ idOf (.slice a7 x1.Net.length cap8) = some i ∨ idOf (.slice a11 x1.Chosen.length cap12) = some i) rfl rfl rfl rfl rfl rfl Try.func58 rfl rfl (Nat.le_refl _) hS14.lo (f_impl_Cluster_tick_k (x1 := (⟨x1.Peers, x1.Net, x1.Chosen, x1.Conflict⟩ : GCluster)) g (St.vis hS14 (fun i hi => .inl hi)) (vis_get ho28 (.inr (.inl rfl))) fo4 lo17 (OD.vis h42 (fun i hi => (.inr (.inr (.inl hi))))) (OW.vis h43 (fun i hi => (.inr (.inr (.inr (.inl hi)))))) (OW.vis h44 (fun i hi => (.inr (.inr (.inr (.inr (hi))))))) ap28 ap30 ap31 ap33 ap34 ap35 hx6) (fun v n8 H14 H15 hn5 hp5 hle2 hnew2 hk8 hd2 => ?_)
 obtain ⟨F5, S4, a13, cap13, a14, cap14, hX2, hS15, ho29, rfl, h45, hl4, h46, h47, ap36, ap37, ap38, ap39, ap40, ap41⟩ := hp5
 have hS16 : St lo n8 H14 _ := sA hS15 hnew2 hle2
 have ho31 := (hk8 _ (by have := lt10; omega) (oE5 (nF fo3) (by omega) ap21 ap29 ap32)).trans ho27
 have hE5 := (hE4.up (n' := n7) (by omega)).trans hX2
 have ho32 := hle2 _ _ ho29
 have h48 := OD.le h45 hle2
 have hl5 : x1.Peers.length = x9.Peers.length := hl4
 have h49 := OW.le h46 hle2
 have h50 := OW.le h47 hle2
 have hlon7 := hS16.lo
 have lt12 := hS16.lt ho31
 have lt13 := hS16.lt ho32
 refine wN (eB (eT (wS (wR (aN rfl (wN (eT (W.ret ?_))))))))
 obtain rfl := Option.some.inj hr
 exact ⟨.inr rfl, _, (.cons (.tmp rfl) .nil), ⟨F5, S4, a13, cap13, a14, cap14, (hE5.up (by omega)), hS16, ho32, rfl, h48, hl5, h49, h50, ap36, ap37, ap38, ap39, ap40, ap41⟩⟩
 }
 {
 replace hr := ite_neg hr hc15
 refine wS (wR (bN rfl rfl (aN rfl (wN (eT ?_)))))
 refine W.condD rfl (fun hc16 => ?_) (fun hc16 => ?_)
 {
 replace hr := ite_pos hr hc16
 refine W.regionD [0, 1, 2, 3, 4, 5, 6, 7, 8, 9, 10, 11, 12, 13, 14, 15] [false, false, false, false, false, false, false, false, false, false, false, false, false, false, false, true] rfl rfl kr kr mP ?_
 refine mR rfl (mR rfl (zR rfl (fR rfl U42 rfl info3 rfl (lR rfl U3 rfl hrow1 (wG 1 hwin1) (mR rfl (zR rfl (fR rfl U42 rfl info3 rfl (lR rfl U3 rfl hrow1 (wG 2 hwin1) (mR rfl (zR rfl (fR rfl U42 rfl info28 rfl ?_)))))))))))
 obtain ⟨S5, hs0, hs1, hs2, h51, h52⟩ := GPeer.open_Log h42 hp4 hx5 hrow1 hwin1 (List.forall_mem_nil _)
 refine lR rfl U28 rfl hrow1 (wG 5 hwin1) ?_
 refine WL.buildL .r (cells := [.bool false, iv x8.Term, iv x8.Vote, iv 0, iv 0, .slice a8 x8.Log.length cap7, .slice none 0 0, .slice none 0 0, .slice none 0 0]) rfl rfl rfl U42 info42 rfl rfl rfl (by simp only [List.mapM_cons, List.mapM_nil, info4, info3, info3, info3, info3, info28, info40, info31, info31]; rfl) rfl (by first | rfl | ((conv => lhs; simp [splice, fillL, cells_int, cells_bool, cells_string, cells_str, cells_slice, cells_ptr, cells_map, cells_func, cells_nilFunc, cells_nilIface, cells_iface, cells_agg, cells_u8]) <;> rfl)) ?_
 refine zR rfl ?_
 refine GL.store hS14 .w (vc := [.bool false, iv x8.Term, iv x8.Vote, iv 0, iv 0, .slice a8 x8.Log.length cap7, .slice none 0 0, .slice none 0 0, .slice none 0 0]) rfl rfl rfl info42 rfl rfl rfl rfl hrow1 (OD.fnone h52 (OD.bS h52 hp4)) (win_fit hwin1 (bl rfl) rfl (bl rfl)) (by have := (OD.id_lt h52 (OD.bS h52 hp4)).1; omega) bxP rfl (fun H16 hS17 ho33 hk9 => ?_)
 have ho35 := (hk9 p0 (fun hj => (Ap.sub0 hs0 ap28) (by rw [hj]; exact (OD.bS h52 hp4)))).trans ho28
 have h53 := OW.keep h43 (Nat.le_refl _) (fun i hi => hk9 i (fun hj => (Ap.sym (Ap.sub hs0 (Ap.sym ap31))) i hi (by rw [hj]; exact (OD.bS h52 hp4))))
 have h54 := OW.keep h44 (Nat.le_refl _) (fun i hi => hk9 i (fun hj => (Ap.sym (Ap.sub hs0 (Ap.sym ap34))) i hi (by rw [hj]; exact (OD.bS h52 hp4))))
 obtain ⟨S7, hs3, h55⟩ := GPeer.whole_Log h52 hp4 hx5 hrow1 hwin1 (w0 := false) (w1 := x8.Term) (w2 := x8.Vote) (w3 := 0) (w4 := 0) h51 (fun i hi => hs2 i hi) ho33 hk9
 have hl6 : x1.Peers.length = (setI x1.Peers x18.N (⟨false, x8.Term, x8.Vote, 0, 0, x8.Log, [], [], []⟩ : GPeer)).length := (setI_length _ _ _).symm
 have hx7 := idx_setI_same (y := (⟨false, x8.Term, x8.Vote, 0, 0, x8.Log, [], [], []⟩ : GPeer)) hx5
 refine wN (eB (eT (wS (wR (aN rfl (wN (eT (W.ret ?_))))))))
 obtain rfl := Option.some.inj hr
 exact ⟨.inr rfl, _, (.cons (.tmp rfl) .nil), ⟨F4, S7, a7, cap8, a11, cap12, (hE4.up (by omega)), hS17, ho35, rfl, h55, hl6, h53, h54, (Ap.or0 hs3 (Ap.sub0 hs0 ap28) (Ap.sub0 hs1 ap28)), ap30, ap33, (Ap.sym (Ap.or hs3 (Ap.sub hs0 (Ap.sym ap31)) (Ap.sub hs1 (Ap.sym ap31)))), (Ap.sym (Ap.or hs3 (Ap.sub hs0 (Ap.sym ap34)) (Ap.sub hs1 (Ap.sym ap34)))), ap35⟩⟩
 }
 {
 replace hr := ite_neg hr hc16
 refine wS (wR (bN rfl rfl (aN rfl (wN (eT ?_)))))
 refine W.condD rfl (fun hc17 => ?_) (fun hc17 => ?_)
 {
 replace hr := ite_pos hr hc17
 refine wR (mN rfl (zN rfl (fN rfl U42 rfl info4 rfl ?_)))
 refine GL.store hS14 .nil (vc := [.bool true]) rfl rfl rfl info4 rfl rfl rfl rfl hrow1 (OD.fnone h42 (OD.bS h42 hp4)) (win_fit2 hwin1 (bl rfl) rfl (bl rfl)) (by have := (OD.id_lt h42 (OD.bS h42 hp4)).1; omega) (one1 rfl) rfl (fun H17 hS18 ho36 hk10 => ?_)
 have ho37 := (hk10 p0 (fun hj => ap28 (by rw [hj]; exact (OD.bS h42 hp4)))).trans ho28
 have h56 := kC h43 hk10 ap31 (OD.bS h42 hp4)
 have h57 := kC h44 hk10 ap34 (OD.bS h42 hp4)
 have h58 := GPeer.put_Up h42 hp4 hx5 hrow1 hwin1 (w := true) ho36 hk10
 have hl7 := lnS h58
 have hx8 := ixS h58 hx5
 refine wN (eB (eT (wS (wR (aN rfl (wN (eT (W.ret ?_))))))))
 obtain rfl := Option.some.inj hr
 exact ⟨.inr rfl, _, (.cons (.tmp rfl) .nil), ⟨F4, S3, a7, cap8, a11, cap12, (hE4.up (by omega)), hS18, ho37, rfl, h58, hl7, h56, h57, ap28, ap30, ap33, ap31, ap34, ap35⟩⟩
 }
 {
 replace hr := ite_neg hr hc17
 refine wS (wR (bN rfl rfl (aN rfl (wN (eT ?_)))))
 refine W.condD rfl (fun hc18 => ?_) (fun hc18 => ?_)
 {
 replace hr := ite_pos hr hc18
 refine wS (W.block (wS (wR (mN rfl (zN rfl (fN rfl U42 rfl info3 rfl (lN rfl U3 rfl hrow1 (wG 4 hwin1) (bN rfl rfl (aN rfl (wN (eT ?_)))))))))))
 refine W.condN rfl (fun hc19 => ?_) (fun hc19 => ?_)
 {
 replace hr := ite_neg hr hc19
 refine wS (wR (aN rfl (wN (eT (W.ret (Ex.blk_ret (eR (Ex.blk_ret (eR ?_)))))))))
 obtain rfl := Option.some.inj hr
 exact ⟨.inr rfl, _, (.cons (.tmp rfl) .nil), ⟨F4, S3, a7, cap8, a11, cap12, (hE4.up (by omega)), hS14, ho28, rfl, h42, rfl, h43, h44, ap28, ap30, ap33, ap31, ap34, ap35⟩⟩
 }
 {
 replace hr := ite_pos hr hc19
 refine wS ?_
 refine W.cut (fun fr n H => ∃ (x10 : Bool) (S8 : Nat → Prop) (F : Heap), fr = [(0, pt p0 0), (3, pt n0 0), (6, pt b1 el0), (124, .bool x10)] ∧ St lo n H F ∧ Ext n0 F0 n F ∧ H n0 = some (.row 1 [iv x18.Kind, iv x18.N, .slice a19 x18.Data.length cap20]) ∧ F n0 = none ∧ H p0 = some (.row ez0 [.slice a2 x1.Peers.length cap3, .slice a7 x1.Net.length cap8, .slice a11 x1.Chosen.length cap12, .bool x1.Conflict]) ∧ F p0 = none ∧ SR F (.slice a19 x18.Data.length cap20) x18.Data ∧ OD lo n H F S8 [] (.slice a2 x1.Peers.length cap3) x1.Peers ∧ Ow lo n H F a7 cap8 x1.Net ∧ Ow lo n H F a11 cap12 x1.Chosen ∧ ¬ S8 n0 ∧ ¬ S8 p0 ∧ nP (.slice a7 x1.Net.length cap8) n0 ∧ nP (.slice a7 x1.Net.length cap8) p0 ∧ nS (.slice a7 x1.Net.length cap8) S8 ∧ nP (.slice a11 x1.Chosen.length cap12) n0 ∧ nP (.slice a11 x1.Chosen.length cap12) p0 ∧ nS (.slice a11 x1.Chosen.length cap12) S8 ∧ nA (.slice a11 x1.Chosen.length cap12) (.slice a7 x1.Net.length cap8) ∧ f_impl_Cluster_event_J2 x1 x8 x18 x10 = some res) ?_ ?_
 {
 refine wR (fN rfl U24 rfl info22 rfl (lN rfl U22 rfl ho27 rfl (WL.len .nil rfl rfl rfl U22 rfl (bN rfl rfl (mN rfl ?_)))))
 refine WL.guardD rfl rfl rfl (fun hg0 => ?_) (fun hg0 => ?_)
 {
 replace hr := ite_pos hr hg0
 refine kN rfl (kN rfl (kN rfl (kN rfl (kN rfl (kN rfl (WL.pick .nil rfl rfl rfl rfl rfl (aN rfl (wN (eT ?_)))))))))
 exact ⟨[(0, pt p0 0), (3, pt n0 0), (6, pt b1 el0), (124, .bool true)], (fl4), true, S3, F4, rfl, hS14, (hE4.up (by omega)), ho27, fo3, ho28, fo4, h38, h42, h43, h44, ap21, ap28, ap29, ap30, ap31, ap32, ap33, ap34, ap35, hr⟩
 }
 {
 replace hr := ite_neg hr hg0
 refine mN rfl (zN rfl (fN rfl U42 rfl info28 rfl ?_))
 obtain ⟨S9, hs4, hs5, hs6, h59, h60⟩ := GPeer.open_Log h42 hp4 hx5 hrow1 hwin1 (List.forall_mem_nil _)
 refine lN rfl U28 rfl hrow1 (wG 5 hwin1) (WL.len .nil rfl rfl rfl U28 rfl (bN rfl rfl (WL.pick .nil rfl rfl rfl rfl rfl (aN rfl (wN (eT ?_))))))
 obtain ⟨S10, hs7, h61⟩ := GPeer.close0_Log h60 hx5 h59
 exact ⟨[(0, pt p0 0), (3, pt n0 0), (6, pt b1 el0), (124, .bool (decide ((100 : Int) ≤ (x8.Log.length : Int))))], (fl4), (decide ((100 : Int) ≤ (x8.Log.length : Int))), S10, F4, rfl, hS14, (hE4.up (by omega)), ho27, fo3, ho28, fo4, h38, h61, h43, h44, (Ap.or0 hs7 (Ap.sub0 hs4 ap21) (Ap.sub0 hs5 ap21)), (Ap.or0 hs7 (Ap.sub0 hs4 ap28) (Ap.sub0 hs5 ap28)), ap29, ap30, (Ap.sym (Ap.or hs7 (Ap.sub hs4 (Ap.sym ap31)) (Ap.sub hs5 (Ap.sym ap31)))), ap32, ap33, (Ap.sym (Ap.or hs7 (Ap.sub hs4 (Ap.sym ap34)) (Ap.sub hs5 (Ap.sym ap34)))), ap35, hr⟩
 }
 }
 {
 intro _ n9 H18 hI
 obtain ⟨x10, S8, F6, rfl, hS19, hE6, ho38, fo5, ho39, fo6, h62, h63, h64, h65, ap42, ap43, ap44, ap45, ap46, ap47, ap48, ap49, ap50, hr⟩ := hI
 have lt14 := hS19.lt ho38
 have lt15 := hS19.lt ho39
 have hlen2 := hE6.le
 have hlon8 := hS19.lo
 unfold f_impl_Cluster_event_J2 at hr
 refine W.cond rfl (fun hc20 => ?_) (fun hc20 => ?_)
 {
 replace hr := iteB_pos hr hc20
 refine wS (wR (aN rfl (wN (eT (W.ret (Ex.blk_ret (eR (Ex.blk_ret (eR ?_)))))))))
 obtain rfl := Option.some.inj hr
 exact ⟨.inr rfl, _, (.cons (.tmp rfl) .nil), ⟨F6, S8, a7, cap8, a11, cap12, (hE6.up (by omega)), hS19, ho39, rfl, h63, rfl, h64, h65, ap43, ap45, ap48, ap46, ap49, ap50⟩⟩
 }
 {
 replace hr := iteB_neg hr hc20
 refine wK (eB (eT (wS ?_)))
 refine W.regionI (fun H => True) [0, 1, 2, 3, 4, 5, 6, 7, 8, 9, 10, 11, 12, 13, 14, 15, 16, 17, 18, 19, 20, 21, 22, 23] [(false, true, false), (false, false, false), (false, false, false), (false, false, false), (false, false, false), (false, false, false), (false, false, false), (false, false, false), (false, false, false), (false, false, false), (false, false, false), (false, false, false), (false, false, false), (false, false, false), (false, false, false), (false, false, false), (false, false, false), (false, false, false), (false, false, false), (false, false, false), (true, false, false), (false, false, false), (false, false, false), (true, false, true)] false rfl kr kr mP ?_
 refine WLI.late (v := pt b1 el0) (fun h => by cases h) rfl rfl (fun H2 hI2 => .move (.inl rfl) rfl) ?_
 refine oP (mR rfl ?_)
 with_reducible refine WL.nil ⟨rfl, ?_⟩
 refine oP (zR rfl ?_)
 with_reducible refine WL.nil ⟨rfl, ?_⟩
 refine oP (fR rfl U42 rfl info28 rfl ?_)
 with_reducible refine WL.nil ⟨rfl, ?_⟩
 refine oP ?_
 obtain ⟨c2, ecs2, hrow2, hwin2, hb1⟩ := OD.get h63 hp4 hx5
 obtain ⟨a15, cap15, a16, cap16, a17, cap17, a18, cap18, rfl⟩ := GPeer.ofB hb1
 obtain ⟨S11, hs8, hs9, hs10, h66, h67⟩ := GPeer.open_Log h63 hp4 hx5 hrow2 hwin2 (List.forall_mem_nil _)
 refine lR rfl U28 rfl hrow2 (wG 5 hwin2) ?_
 with_reducible refine WL.nil ⟨rfl, ?_⟩
 refine oP (mR rfl ?_)
 with_reducible refine WL.nil ⟨rfl, ?_⟩
 refine oP (zR rfl ?_)
 with_reducible refine WL.nil ⟨rfl, ?_⟩
 refine oP (fR rfl U42 rfl info3 rfl ?_)
 with_reducible refine WL.nil ⟨rfl, ?_⟩
 refine oP (lR rfl U3 rfl hrow2 (wG 1 hwin2) ?_)
 with_reducible refine WL.nil ⟨rfl, ?_⟩
 refine oP (mR rfl ?_)
 with_reducible refine WL.nil ⟨rfl, ?_⟩
 refine oP (zR rfl ?_)
 with_reducible refine WL.nil ⟨rfl, ?_⟩
 refine oP (fR rfl U42 rfl info28 rfl ?_)
 with_reducible refine WL.nil ⟨rfl, ?_⟩
 refine oP (lR rfl U28 rfl hrow2 (wG 5 hwin2) ?_)
 with_reducible refine WL.nil ⟨rfl, ?_⟩
 refine oP (WL.len .r rfl rfl rfl U28 rfl ?_)
 with_reducible refine WL.nil ⟨rfl, ?_⟩
 refine oP ?_
 obtain ⟨hc21, hr⟩ := chk_some hr
 refine WL.addI .r rfl rfl rfl rfl rfl hc21.1 hc21.2 ?_
 with_reducible refine WL.nil ⟨rfl, ?_⟩
 refine oP (fR rfl U24 rfl info22 rfl ?_)
 with_reducible refine WL.nil ⟨rfl, ?_⟩
 refine oP (lR rfl U22 rfl ho38 rfl ?_)
 with_reducible refine WL.nil ⟨rfl, ?_⟩
 refine oP ?_
 obtain ⟨x11, hx9, hr⟩ := bnd_some hr
 refine GL.callP g.good .r rfl rfl rfl rfl rfl rfl Try.func59 rfl rfl (Nat.le_refl _) (f_slices_Clone_byte_k  g hS19 (SR.src h62 hS19.fh) hx9) (fun v n10 H19 hn6 hk11 hp6 => ?_)
 obtain ⟨a20, cap19, hS20, rfl, h68⟩ := hp6
 have ho40 := oA hk11 ho38 lt14
 have ho41 := oA hk11 ho39 lt15
 have h69 := OD.keep (n' := n10) h67 (by omega) (fun i hi => hk11 i (OD.id_lt h67 hi).2)
 have h70 := kA (n' := n10) h64 hk11
 have h71 := kA (n' := n10) h65 hk11
 have h72 := kA (n' := n10) h66 hk11
 have hS21 : St lo n10 H19 F6 := ⟨by have := hS19.lo; omega, hS20.hb, hS20.fh⟩
 have hlon9 := hS21.lo
 have h73 := OW.lower (lo' := n0) h68 (by omega)
 with_reducible refine WL.nil ⟨rfl, ?_⟩
 refine oP ?_
 refine WL.buildL .r (cells := [iv x8.Term, iv ((x8.Log.length : Int) + 1), .slice a20 x11.length cap19]) rfl rfl rfl U35 info35 rfl rfl rfl (by simp only [List.mapM_cons, List.mapM_nil, info3, info3, info22]; rfl) rfl (by first | rfl | ((conv => lhs; simp [splice, fillL, cells_int, cells_bool, cells_string, cells_str, cells_slice, cells_ptr, cells_map, cells_func, cells_nilFunc, cells_nilIface, cells_iface, cells_agg, cells_u8]) <;> rfl)) ?_
 with_reducible refine WL.nil ⟨rfl, ?_⟩
 refine oP ?_
 obtain ⟨F7, hS22, hle3, h74, hf0⟩ := OW.freeze h73 hS21
 have fo7 := (hf0 _ (Ap.fresh0 (OW.lb h68) (by have := lt14; omega))).trans fo5
 have fo8 := (hf0 _ (Ap.fresh0 (OW.lb h68) (by have := lt15; omega))).trans fo6
 have h75 := OD.keepF h69 hle3 (fun i hi => (hf0 i (fun hj => (Ap.fresh (OW.lb h68) (OD.hb h67)) i hj hi)).trans (OD.fnone h69 hi))
 have h76 := kF h70 hle3 hf0 (Ap.fresh (OW.lb h68) (OW.hb h64))
 have h77 := kF h71 hle3 hf0 (Ap.fresh (OW.lb h68) (OW.hb h65))
 have h78 := kF h72 hle3 hf0 (Ap.fresh (OW.lb h68) (OW.hb h66))
 have hE7 : Ext n0 F0 n10 F7 := ⟨Nat.le_trans hE6.le (by omega), hE6.sub.trans hle3, fun i hi => (hf0 i (fun hj => by have := OW.id_lt h73 hj; omega)).trans (hE6.eq i hi)⟩
 refine GL.lit (cs := [iv x8.Term, iv ((x8.Log.length : Int) + 1), .slice a20 x11.length cap19]) (xs := ([(⟨x8.Term, ((x8.Log.length : Int) + 1), x11⟩ : GRec)] : List GRec)) hS22 .r rfl rfl rfl U28 info35 rfl rfl rfl (by decide) (by decide) rfl rfl rfl rfl rfl (RA.cons (cs := [iv x8.Term, iv ((x8.Log.length : Int) + 1), .slice a20 x11.length cap19]) (a := ((⟨x8.Term, ((x8.Log.length : Int) + 1), x11⟩ : GRec) : GRec)) (GRec.toR (x := (⟨x8.Term, ((x8.Log.length : Int) + 1), x11⟩ : GRec)) h74) RA.nil) rfl (fun H20 hS23 hO1 hk12 => ?_)
 have ho42 := oA hk12 ho40 lt14
 have ho43 := oA hk12 ho41 lt15
 have h79 := OD.keep (n' := (n10 + 1)) h75 (by omega) (fun i hi => hk12 i (OD.id_lt h75 hi).2)
 have h80 := kA (n' := (n10 + 1)) h76 hk12
 have h81 := kA (n' := (n10 + 1)) h77 hk12
 have h82 := kA (n' := (n10 + 1)) h78 hk12
 have h83 := OW.lower (lo' := n0) hO1 (by omega)
 have hlon10 := hS23.lo
 with_reducible refine WL.nil ⟨rfl, ?_⟩
 refine oP ?_
 obtain ⟨hc22, hr⟩ := chk_some hr
 refine GL.append (α := GRec) hS23 .w rfl rfl rfl U28 U28 rfl info35 rfl rfl rfl (by decide) rfl rfl h82 (by omega) (by omega) (OW.src h83) hc22 (fun a21 cap21 n11 H21 hS24 hn7 hO2 hk13 hid2 => ?_)
 have ho44 := (hk13 _ (by have := lt14; omega) (Ap.sub0 hs9 ap42)).trans ho42
 have ho45 := (hk13 _ (by have := lt15; omega) (Ap.sub0 hs9 ap43)).trans ho43
 have h84 := OD.keep h79 hn7 (fun i hi => hk13 i (OD.id_lt h79 hi).2 (fun hj => hs10 _ hj hi))
 have h85 := OW.keep h80 hn7 (fun i hi => hk13 i (OW.id_lt h80 hi).2 (fun hj => (Ap.sub hs9 (Ap.sym ap46)) _ hj hi))
 have h86 := OW.keep h81 hn7 (fun i hi => hk13 i (OW.id_lt h81 hi).2 (fun hj => (Ap.sub hs9 (Ap.sym ap49)) _ hj hi))
 have hlon11 := hS24.lo
 with_reducible refine WL.nil ⟨rfl, ?_⟩
 refine oP (zR rfl ?_)
 with_reducible refine WL.nil ⟨rfl, ?_⟩
 refine oP (fR rfl U42 rfl info28 rfl ?_)
 with_reducible refine WL.nil ⟨rfl, ?_⟩
 refine WLI.op (fun _ => trivial) ?_
 obtain ⟨c3, ecs3, hrow3, hwin3, hb2⟩ := OD.get h84 hp4 hx5
 obtain ⟨a22, cap22, a23, cap23, a24, cap24, a25, cap25, rfl⟩ := GPeer.ofB hb2
 have hq0 := OD.hole h84 hp4 hx5 hrow3 hwin3
 obtain ⟨rfl, rfl⟩ := hdr_eq (a := a22) (c := cap22) hq0
 refine GL.store hS24 .w (vc := [.slice a21 (x8.Log ++ ([(⟨x8.Term, ((x8.Log.length : Int) + 1), x11⟩ : GRec)] : List GRec)).length cap21]) rfl rfl rfl info28 rfl rfl rfl rfl hrow3 (OD.fnone h84 (OD.bS h84 hp4)) (win_fit2 hwin3 (bl rfl) rfl (bl rfl)) (by have := (OD.id_lt h84 (OD.bS h84 hp4)).1; omega) (one1 rfl) rfl (fun H22 hS25 ho46 hk14 => ?_)
 have ho47 := (hk14 n0 (fun hj => (Ap.sub0 hs8 ap42) (by rw [hj]; exact (OD.bS h84 hp4)))).trans ho44
 have ho48 := (hk14 p0 (fun hj => (Ap.sub0 hs8 ap43) (by rw [hj]; exact (OD.bS h84 hp4)))).trans ho45
 have h87 := OW.keep h85 (Nat.le_refl _) (fun i hi => hk14 i (fun hj => (Ap.sym (Ap.sub hs8 (Ap.sym ap46))) i hi (by rw [hj]; exact (OD.bS h84 hp4))))
 have h88 := OW.keep h86 (Nat.le_refl _) (fun i hi => hk14 i (fun hj => (Ap.sym (Ap.sub hs8 (Ap.sym ap49))) i hi (by rw [hj]; exact (OD.bS h84 hp4))))
 obtain ⟨S12, hs11, h89⟩ := GPeer.set_Log h84 hp4 hx5 hrow3 hwin3 hO2 (fun i hi => (Ap.new hid2 (OD.hb h79) hs10) i hi) z10 z00 ho46 hk14
 have hl8 := lnS h89
 have hx10 := ixS h89 hx5
 with_reducible refine WL.nil ⟨rfl, ?_⟩
 refine WLI.nil (fun h => by cases h) ?_
 refine eT (wS ?_)
 refine W.regionD [0, 1, 2, 3, 4, 5, 6, 7, 8, 9, 10, 11, 12] [false, false, false, false, false, false, false, false, false, false, false, false, true] rfl rfl kr kr mP ?_
 refine mR rfl (zR rfl (fR rfl U42 rfl info31 rfl ?_))
 obtain ⟨c4, ecs4, hrow4, hwin4, hb3⟩ := OD.get h89 hp4 hx10
 obtain ⟨a26, cap26, a27, cap27, a28, cap28, a29, cap29, rfl⟩ := GPeer.ofB hb3
 obtain ⟨S13, hs12, hs13, hs14, h90, h91⟩ := GPeer.open_Match h89 hp4 hx10 hrow4 hwin4 (List.forall_mem_nil _)
 have ap51 : nP (.slice a29 x8.Match.length cap29) n0 := Ap.sub0 hs13 (Ap.or0 hs11 (Ap.sub0 hs8 ap42) (Ap.new0 hid2 (by have := lt14; omega) (Ap.sub0 hs9 ap42)))
 have ap52 : nP (.slice a29 x8.Match.length cap29) p0 := Ap.sub0 hs13 (Ap.or0 hs11 (Ap.sub0 hs8 ap43) (Ap.new0 hid2 (by have := lt15; omega) (Ap.sub0 hs9 ap43)))
 have ap53 : nA (.slice a29 x8.Match.length cap29) (.slice a7 x1.Net.length cap8) := Ap.sub hs13 (Ap.or hs11 (Ap.sub hs8 (Ap.sym ap46)) (Ap.new hid2 (OW.hb h80) (Ap.sub hs9 (Ap.sym ap46))))
 have ap54 : nA (.slice a29 x8.Match.length cap29) (.slice a11 x1.Chosen.length cap12) := Ap.sub hs13 (Ap.or hs11 (Ap.sub hs8 (Ap.sym ap49)) (Ap.new hid2 (OW.hb h81) (Ap.sub hs9 (Ap.sym ap49))))
 have ap55 : ¬ S13 n0 := Ap.sub0 hs12 (Ap.or0 hs11 (Ap.sub0 hs8 ap42) (Ap.new0 hid2 (by have := lt14; omega) (Ap.sub0 hs9 ap42)))
 have ap56 : ¬ S13 p0 := Ap.sub0 hs12 (Ap.or0 hs11 (Ap.sub0 hs8 ap43) (Ap.new0 hid2 (by have := lt15; omega) (Ap.sub0 hs9 ap43)))
 have ap57 : Sn S13 (.slice a7 x1.Net.length cap8) := Ap.sub hs12 (Ap.or hs11 (Ap.sub hs8 (Ap.sym ap46)) (Ap.new hid2 (OW.hb h80) (Ap.sub hs9 (Ap.sym ap46))))
 have ap58 : Sn S13 (.slice a11 x1.Chosen.length cap12) := Ap.sub hs12 (Ap.or hs11 (Ap.sub hs8 (Ap.sym ap49)) (Ap.new hid2 (OW.hb h81) (Ap.sub hs9 (Ap.sym ap49))))
 refine lR rfl U31 rfl hrow4 (wG 8 hwin4) (fR rfl U24 rfl info3 rfl (lR rfl U3 rfl ho47 rfl (mR rfl (zR rfl (fR rfl U42 rfl info28 rfl ?_)))))
 obtain ⟨S14, hs15, hs16, hs17, h92, h93⟩ := GPeer.open_Log h91 hp4 hx10 hrow4 hwin4 (List.forall_mem_cons.2 ⟨fun h => absurd (show (8 : Nat) = 5 from h.2) (by decide), List.forall_mem_nil _⟩)
 refine lR rfl U28 rfl hrow4 (wG 5 hwin4) (WL.len .r rfl rfl rfl U28 rfl ?_)
 obtain ⟨x12, hx11, hr⟩ := bnd_some hr
 refine GL.indexO .r rfl rfl rfl U31 info3 rfl rfl h90 rfl hx11 (fun b2 kp1 c5 ecs5 hid3 hrow5 hwin5 hR1 hup1 => ?_)
 have hcs : _ = ([iv x12] : List Value) := hR1
 subst hcs
 refine GL.store hS25 .w (vc := [iv ((x8.Log ++ ([(⟨x8.Term, ((x8.Log.length : Int) + 1), x11⟩ : GRec)] : List GRec)).length : Int)]) rfl rfl rfl info3 rfl rfl rfl rfl hrow5 (OW.fnone h90 hid3) (wF hwin5) (OW.id_lt h90 hid3).1 (one1 rfl) rfl (fun H23 hS26 ho49 hk15 => ?_)
 have h94 := hup1 0 [iv ((x8.Log ++ ([(⟨x8.Term, ((x8.Log.length : Int) + 1), x11⟩ : GRec)] : List GRec)).length : Int)] (((x8.Log ++ ([(⟨x8.Term, ((x8.Log.length : Int) + 1), x11⟩ : GRec)] : List GRec)).length : Int) : Int) H23 (bl rfl) rfl ho49
 have ho50 := (hk15 n0 (fun hj => ap51 (by rw [hj]; exact hid3))).trans ho47
 have ho51 := (hk15 p0 (fun hj => ap52 (by rw [hj]; exact hid3))).trans ho48
 have h95 := OD.keep h93 (Nat.le_refl _) (fun i hi => hk15 i (fun hj => (Ap.sub hs15 (Ap.sym hs14)) i hi (by rw [hj]; exact hid3)))
 have h96 := OW.keep h87 (Nat.le_refl _) (fun i hi => hk15 i (fun hj => (Ap.sym ap53) i hi (by rw [hj]; exact hid3)))
 have h97 := OW.keep h88 (Nat.le_refl _) (fun i hi => hk15 i (fun hj => (Ap.sym ap54) i hi (by rw [hj]; exact hid3)))
 have h98 := OW.keep h92 (Nat.le_refl _) (fun i hi => hk15 i (fun hj => (Ap.sub hs16 (Ap.sym hs14)) i hi (by rw [hj]; exact hid3)))
 have hl9 : x8.Match.length = (setI x8.Match x18.N ((x8.Log ++ ([(⟨x8.Term, ((x8.Log.length : Int) + 1), x11⟩ : GRec)] : List GRec)).length : Int)).length := (setI_length _ _ _).symm
 refine wN (eT (wR (mN rfl (fN rfl U24 rfl info3 rfl (lN rfl U3 rfl ho50 rfl ?_)))))
 obtain ⟨S15, hs18, h99⟩ := GPeer.close0_Log h95 hx10 h98
 obtain ⟨S16, hs19, h100⟩ := GPeer.close_Match h99 hx10 hl9 h94
 rw [setI_setI] at h100
 have hl10 : x1.Peers.length = (setI x1.Peers x18.N (⟨x8.Up, x8.Term, x8.Vote, x8.Commit, x8.Role, (x8.Log ++ ([(⟨x8.Term, ((x8.Log.length : Int) + 1), x11⟩ : GRec)] : List GRec)), x8.Votes, x8.Next, (setI x8.Match x18.N ((x8.Log ++ ([(⟨x8.Term, ((x8.Log.length : Int) + 1), x11⟩ : GRec)] : List GRec)).length : Int))⟩ : GPeer)).length := hl8.trans (by rw [setI_length, setI_length])
 have hx12 := idx_setI_same (y := (⟨x8.Up, x8.Term, x8.Vote, x8.Commit, x8.Role, (x8.Log ++ ([(⟨x8.Term, ((x8.Log.length : Int) + 1), x11⟩ : GRec)] : List GRec)), x8.Votes, x8.Next, (setI x8.Match x18.N ((x8.Log ++ ([(⟨x8.Term, ((x8.Log.length : Int) + 1), x11⟩ : GRec)] : List GRec)).length : Int))⟩ : GPeer)) hx5
 obtain ⟨x13, hx13, hr⟩ := bnd_some hr
 refine GL.callIO g .nil (fun i => (F7 i).isSome = true ∨ i = p0 ∨ S16 i ∨ idOf (.slice a7 x1.Net.length cap8) = some i ∨ idOf (.slice a11 x1.Chosen.length cap12) = some i) rfl rfl rfl rfl rfl rfl Try.func60 rfl rfl (Nat.le_refl _) hS26.lo (f_impl_Cluster_commit_k (x1 := (⟨(setI x1.Peers x18.N (⟨x8.Up, x8.Term, x8.Vote, x8.Commit, x8.Role, (x8.Log ++ ([(⟨x8.Term, ((x8.Log.length : Int) + 1), x11⟩ : GRec)] : List GRec)), x8.Votes, x8.Next, (setI x8.Match x18.N ((x8.Log ++ ([(⟨x8.Term, ((x8.Log.length : Int) + 1), x11⟩ : GRec)] : List GRec)).length : Int))⟩ : GPeer)), x1.Net, x1.Chosen, x1.Conflict⟩ : GCluster)) g (St.vis hS26 (fun i hi => .inl hi)) (by rw [← hl10]; exact vis_get ho51 (.inr (.inl rfl))) fo8 lo17 (OD.head hl10 (OD.vis h100 (fun i hi => (.inr (.inr (.inl hi)))))) (OW.vis h96 (fun i hi => (.inr (.inr (.inr (.inl hi)))))) (OW.vis h97 (fun i hi => (.inr (.inr (.inr (.inr (hi))))))) (Ap.or0 hs19 (Ap.or0 hs18 (Ap.sub0 hs15 ap56) (Ap.sub0 hs16 ap56)) ap52) ap45 (Ap.sym (Ap.or hs19 (Ap.or hs18 (Ap.sub hs15 ap57) (Ap.sub hs16 ap57)) ap53)) ap48 (Ap.sym (Ap.or hs19 (Ap.or hs18 (Ap.sub hs15 ap58) (Ap.sub hs16 ap58)) ap54)) ap50 hx13) (fun v n12 H24 H25 hn8 hp7 hle4 hnew3 hk16 hd3 => ?_)
 obtain ⟨F8, S17, a30, cap30, a31, cap31, hX3, hS27, ho52, rfl, h101, hl11, h102, h103, ap59, ap60, ap61, ap62, ap63, ap64⟩ := hp7
 have hS28 : St lo n12 H24 _ := sA hS27 hnew3 hle4
 have ho53 := (hk16 _ (by have := lt14; omega) (oE5 (nF fo7) (by omega) (Ap.or0 hs19 (Ap.or0 hs18 (Ap.sub0 hs15 ap55) (Ap.sub0 hs16 ap55)) ap51) ap44 ap47)).trans ho50
 have hE8 := (hE7.up (n' := n11) (by omega)).trans hX3
 have ho54 := hle4 _ _ ho52
 have h104 := OD.le h101 hle4
 have hl12 : x1.Peers.length = x13.Peers.length := hl10.trans hl11
 rw [← hl10] at h104
 have h105 := OW.le h102 hle4
 have h106 := OW.le h103 hle4
 rw [← hl10] at ho54
 have hlon12 := hS28.lo
 have lt16 := hS28.lt ho53
 have lt17 := hS28.lt ho54
 refine wN (eB (eT (wS (wR (aN rfl (wN (eT (W.ret ?_))))))))
 obtain rfl := Option.some.inj hr
 exact ⟨.inr rfl, _, (.cons (.tmp rfl) .nil), ⟨F8, S17, a30, cap30, a31, cap31, (hE8.up (by omega)), hS28, ho54, rfl, h104, hl12, h105, h106, ap59, ap60, ap61, ap62, ap63, ap64⟩⟩
 }
 }
 }
 }
 {
 replace hr := ite_neg hr hc18
 refine wK (eB (eT (wS (wR (aN rfl (wN (eT (W.ret ?_))))))))
 obtain rfl := Option.some.inj hr
 exact ⟨.inr rfl, _, (.cons (.tmp rfl) .nil), ⟨F4, S3, a7, cap8, a11, cap12, (hE4.up (by omega)), hS14, ho28, rfl, h42, rfl, h43, h44, ap28, ap30, ap33, ap31, ap34, ap35⟩⟩
 }
 }
 }
 }
 }
 }
 }
 {
 replace hr := iteB_neg hr hc11
 refine wS (wR (aN rfl (wN (eT (W.ret (Ex.blk_ret (eR ?_)))))))
 obtain rfl := Option.some.inj hr
 exact ⟨.inr rfl, _, (.cons (.tmp rfl) .nil), ⟨F4, S3, a7, cap8, a11, cap12, (hE4.up (by omega)), hS12, ho26, rfl, h39, rfl, h40, h41, ap28, ap30, ap33, ap31, ap34, ap35⟩⟩
 }
 }
 }
 }
theorem f_slices_Clone_bool_k {Δ : Prims} (g : Env Try.prog Δ) {lo n0 : Nat} {H0 F0 : Heap} (hS : St lo n0 H0 F0) {a2 : Option Addr} {cap3 : Nat} {xs1 : List Bool} (h4 : SrcX H0 F0 (.slice a2 xs1.length cap3) xs1) {res : List Bool} (hr : f_slices_Clone_bool xs1 = some res) :
    C Try.prog Δ n0 62 [.slice a2 xs1.length cap3] n0 H0 (fun v n H => ∃ (ra1 : OA) (rcap2 : Nat), St n0 n H F0 ∧ v = .slice ra1 res.length rcap2 ∧ Ow n0 n H F0 ra1 rcap2 res) := by
  refine C.body Try.func62 rfl rfl ?_
  obtain ⟨hlen, hr⟩ := chk_some hr
  obtain rfl := Option.some.inj hr
  have hS0 : St n0 n0 H0 F0 := hS.low (Nat.le_refl _)
  refine wS (wR (aN rfl (wN (eT (wS (wS (wR (mN rfl ?_))))))))
  refine WL.eqNil .nil rfl rfl rfl (by decide) U40 rfl rfl ?_
  refine wN (eT ?_)
  refine W.cond rfl (fun hc => ?_) (fun hc => ?_)
  · have hnil := SrcX.isNone h4 hc
    subst hnil
    refine wS (wR (aN rfl (wN (eT (W.ret ?_)))))
    repeat (with_reducible refine Ex.thn_ret ?_)
    exact ⟨.inr rfl, _, resl1 rfl, none, 0, hS0, rfl, OW.nil⟩
  · with_reducible refine W.skip ?_
    refine eT (wS (wR ?_))
    refine GL.lit (cs := []) (xs := ([] : List Bool)) hS0 .nil rfl rfl rfl U40 info4 rfl rfl rfl (by decide) (by decide) rfl rfl rfl rfl rfl RA.nil rfl (fun H5 hS6 hO7 hk8 => ?_)
    refine mN rfl ?_
    refine GL.append (α := Bool) hS6 .nil rfl rfl rfl U40 U40 rfl info4 rfl rfl rfl (by decide) rfl rfl hO7 (by omega) (by omega) (h4.up (n' := n0) hS0 hk8) (by simpa using hlen) (fun a9 c10 n11 H12 hS13 hn14 hO15 hk16 hid17 => ?_)
    refine aN rfl (wN (eT (W.ret ?_)))
    rw [List.nil_append] at hO15
    exact ⟨.inr rfl, _, resl1 rfl, a9, c10, hS13, rfl, hO15⟩
theorem f_slices_Clone_int_k {Δ : Prims} (g : Env Try.prog Δ) {lo n0 : Nat} {H0 F0 : Heap} (hS : St lo n0 H0 F0) {a2 : Option Addr} {cap3 : Nat} {xs1 : List Int} (h4 : SrcX H0 F0 (.slice a2 xs1.length cap3) xs1) {res : List Int} (hr : f_slices_Clone_int xs1 = some res) :
    C Try.prog Δ n0 63 [.slice a2 xs1.length cap3] n0 H0 (fun v n H => ∃ (ra1 : OA) (rcap2 : Nat), St n0 n H F0 ∧ v = .slice ra1 res.length rcap2 ∧ Ow n0 n H F0 ra1 rcap2 res) := by
  refine C.body Try.func63 rfl rfl ?_
  obtain ⟨hlen, hr⟩ := chk_some hr
  obtain rfl := Option.some.inj hr
  have hS0 : St n0 n0 H0 F0 := hS.low (Nat.le_refl _)
  refine wS (wR (aN rfl (wN (eT (wS (wS (wR (mN rfl ?_))))))))
  refine WL.eqNil .nil rfl rfl rfl (by decide) U31 rfl rfl ?_
  refine wN (eT ?_)
  refine W.cond rfl (fun hc => ?_) (fun hc => ?_)
  · have hnil := SrcX.isNone h4 hc
    subst hnil
    refine wS (wR (aN rfl (wN (eT (W.ret ?_)))))
    repeat (with_reducible refine Ex.thn_ret ?_)
    exact ⟨.inr rfl, _, resl1 rfl, none, 0, hS0, rfl, OW.nil⟩
  · with_reducible refine W.skip ?_
    refine eT (wS (wR ?_))
    refine GL.lit (cs := []) (xs := ([] : List Int)) hS0 .nil rfl rfl rfl U31 info3 rfl rfl rfl (by decide) (by decide) rfl rfl rfl rfl rfl RA.nil rfl (fun H5 hS6 hO7 hk8 => ?_)
    refine mN rfl ?_
    refine GL.append (α := Int) hS6 .nil rfl rfl rfl U31 U31 rfl info3 rfl rfl rfl (by decide) rfl rfl hO7 (by omega) (by omega) (h4.up (n' := n0) hS0 hk8) (by simpa using hlen) (fun a9 c10 n11 H12 hS13 hn14 hO15 hk16 hid17 => ?_)
    refine aN rfl (wN (eT (W.ret ?_)))
    rw [List.nil_append] at hO15
    exact ⟨.inr rfl, _, resl1 rfl, a9, c10, hS13, rfl, hO15⟩
theorem f_impl_Cluster_told_k {Δ : Prims} (g : Env Try.prog Δ) {lo n0 : Nat} {H0 F0 : Heap} (hS : St lo n0 H0 F0) {p0 : Nat} {x1 : GCluster} {ez0 : Nat} {lw0 : Nat} {a2 : Option Addr} {cap3 : Nat} {S6 : Nat → Prop} {a7 : Option Addr} {cap8 : Nat} {a11 : Option Addr} {cap12 : Nat} (ho15 : H0 p0 = some (.row ez0 [.slice a2 x1.Peers.length cap3, .slice a7 x1.Net.length cap8, .slice a11 x1.Chosen.length cap12, .bool x1.Conflict])) (fo16 : F0 p0 = none) (h4 : OD lw0 n0 H0 F0 S6 [] (.slice a2 x1.Peers.length cap3) x1.Peers) (h9 : Ow lw0 n0 H0 F0 a7 cap8 x1.Net) (h13 : Ow lw0 n0 H0 F0 a11 cap12 x1.Chosen) (ap18 : ¬ S6 p0) (ap19 : nP (.slice a7 x1.Net.length cap8) p0) (ap20 : nS (.slice a7 x1.Net.length cap8) S6) (ap21 : nP (.slice a11 x1.Chosen.length cap12) p0) (ap22 : nS (.slice a11 x1.Chosen.length cap12) S6) (ap23 : nA (.slice a11 x1.Chosen.length cap12) (.slice a7 x1.Net.length cap8)) {res : (GCluster)} (hr : f_impl_Cluster_told x1 = some res) :
    C Try.prog Δ n0 33 [pt p0 0] n0 H0 (fun v n H => ∃ (F : Heap) (ra1 : OA) (rcap2 : Nat) (ra4 : OA) (rcap5 : Nat) (ra7 : OA) (rcap8 : Nat), Ext n0 F0 n F ∧ St n0 n H F ∧ v = .agg [.slice ra1 res.Peers.length rcap2, .slice ra4 res.Net.length rcap5, .slice ra7 res.Chosen.length rcap8, .bool res.Conflict].toArray ∧ SR F (.slice ra1 res.Peers.length rcap2) res.Peers ∧ SR F (.slice ra4 res.Net.length rcap5) res.Net ∧ SR F (.slice ra7 res.Chosen.length rcap8) res.Chosen) := by
 refine C.body Try.func33 rfl rfl ?_
 unfold f_impl_Cluster_told at hr
 have hS0 : St n0 n0 H0 F0 := hS.low (Nat.le_refl _)
 have hE0 := Ext.refl n0 F0
 have hlo0 := hS0.lo
 have lt0 := hS0.lt ho15
 refine wS (wR ?_)
 refine GL.alloc hS0 .nil (zc := [.slice none 0 0, .slice none 0 0, .slice none 0 0, .bool false]) rfl rfl rfl info30 rfl rfl rfl (fun H24 hS25 ho26 hk27 => ?_)
 have fo28 := hS0.fnone (Nat.le_refl _)
 have ho30 := oA hk27 ho15 lt0
 have h31 := OD.keep (n' := (n0 + 1)) h4 (by omega) (fun i hi => hk27 i (OD.id_lt h4 hi).2)
 have h32 := kA (n' := (n0 + 1)) h9 hk27
 have h33 := kA (n' := (n0 + 1)) h13 hk27
 have hlon01 := hS25.lo
 have lt29 : n0 < (n0 + 1) := by omega
 refine wN (eT (wS ?_))
 refine W.regionD [0, 1, 2, 3, 4, 5, 6, 7, 8, 9, 10, 11] [false, false, false, false, false, false, false, false, false, false, false, true] rfl rfl kr kr mP ?_
 refine mR rfl (zR rfl (fR rfl U30 rfl info28 rfl (lR rfl U28 rfl ho30 rfl ?_)))
 obtain ⟨x34, hx34, hr⟩ := bnd_some hr
 refine GL.callP g.good .r rfl rfl rfl rfl rfl rfl Try.func61 rfl rfl (Nat.le_refl _) (f_impl_copyRecs_own0_k  g hS25 h33 hx34) (fun v n35 H36 hn37 hk38 hp39 => ?_)
 obtain ⟨F44, a40, cap41, hX45, hS43, rfl, h42⟩ := hp39
 have ho46 := oA hk38 ho30 lt0
 have ho47 := oA hk38 ho26 lt29
 have h48 := OD.keep (n' := n35) h31 (by omega) (fun i hi => hk38 i (OD.id_lt h31 hi).2)
 have h49 := kA (n' := n35) h32 hk38
 have h50 := kA (n' := n35) h33 hk38
 have hS51 : St n0 n35 H36 F44 := ⟨by have := hS25.lo; omega, hS43.hb, hS43.fh⟩
 have fo52 := fA hX45 lt0 fo16
 have fo53 := fA hX45 lt29 fo28
 have h54 := OD.keepF h48 hX45.sub (fun i hi => (hX45.eq i (by have := OD.id_lt h31 hi; omega)).trans (OD.fnone h48 hi))
 have h55 := OW.keepF h49 hX45.sub (fun i hi => (hX45.eq i (by have := OW.id_lt h32 hi; omega)).trans (OW.fnone h49 hi))
 have h56 := OW.keepF h50 hX45.sub (fun i hi => (hX45.eq i (by have := OW.id_lt h33 hi; omega)).trans (OW.fnone h50 hi))
 have hE57 := (hE0.up (n' := (n0 + 1)) (by omega)).trans hX45
 have hlon35 := hS51.lo
 have h58 := OW.lower (lo' := n0) h42 (by omega)
 refine mR rfl (zR rfl (fR rfl U30 rfl info4 rfl (lR rfl U4 rfl ho46 rfl ?_)))
 refine WL.buildL .r (cells := [.slice none 0 0, .slice none 0 0, .slice a40 x34.length cap41, .bool x1.Conflict]) rfl rfl rfl U30 info30 rfl rfl rfl (by simp only [List.mapM_cons, List.mapM_nil, info26, info27, info28, info4]; rfl) rfl (by first | rfl | ((conv => lhs; simp [splice, fillL, cells_int, cells_bool, cells_string, cells_str, cells_slice, cells_ptr, cells_map, cells_func, cells_nilFunc, cells_nilIface, cells_iface, cells_agg, cells_u8]) <;> rfl)) ?_
 refine GL.alloc hS51 .r (zc := [.slice none 0 0, .slice none 0 0, .slice none 0 0, .bool false]) rfl rfl rfl info30 rfl rfl rfl (fun H65 hS66 ho67 hk68 => ?_)
 have fo69 := hS51.fnone (Nat.le_refl _)
 have ho71 := oA hk68 ho46 lt0
 have ho72 := oA hk68 ho47 lt29
 have h73 := OD.keep (n' := (n35 + 1)) h54 (by omega) (fun i hi => hk68 i (OD.id_lt h54 hi).2)
 have h74 := kA (n' := (n35 + 1)) h55 hk68
 have h75 := kA (n' := (n35 + 1)) h56 hk68
 have h76 := kA (n' := (n35 + 1)) h58 hk68
 have hlon0 := hS66.lo
 have lt70 : n35 < (n35 + 1) := by omega
 refine GL.store hS66 .w (vc := [.slice none 0 0, .slice none 0 0, .slice a40 x34.length cap41, .bool x1.Conflict]) (c' := [.slice none 0 0, .slice none 0 0, .slice a40 x34.length cap41, .bool x1.Conflict]) rfl rfl rfl info30 rfl rfl rfl rfl ho67 fo69 (bl rfl) (by omega) bxP rfl (fun H77 hS78 ho79 hk80 => ?_)
 have ho81 := (hk80 _ (by omega)).trans ho71
 have ho82 := (hk80 _ (by omega)).trans ho72
 have h83 := OD.keep h73 (Nat.le_refl _) (fun i hi => hk80 i (fun hj => (aD h54) (hj ▸ hi)))
 have h84 := kB h74 hk80 (aW h55)
 have h85 := kB h75 hk80 (aW h56)
 have h86 := kB h76 hk80 (aW h58)
 refine wN (eT (wS (wS (wR (mN rfl (zN rfl (fN rfl U30 rfl info26 rfl (lN rfl U26 rfl ho81 rfl (WL.len .nil rfl rfl rfl U26 rfl (mN rfl (wN ?_)))))))))))
 refine eT (W.block ?_)
 refine W.loopF (fun k0 fr n H => ∃ (S0 : Nat → Prop) (x0 : Int) (a0 : OA) (cap0 : Nat) (xs0 : (List GPeer)) (F : Heap), fr = [(0, pt p0 0), (2, pt n0 0), (3, pt n35 0), (21, .slice a2 x1.Peers.length cap3), (22, iv (x1.Peers.length : Int)), (23, iv x0)] ∧ St n0 n H F ∧ Ext n0 F0 n F ∧ H n0 = some (.row 1 [.slice none 0 0, .slice none 0 0, .slice none 0 0, .bool false]) ∧ F n0 = none ∧ H n35 = some (.row 1 [.slice a0 xs0.length cap0, .slice none 0 0, .slice a40 x34.length cap41, .bool x1.Conflict]) ∧ F n35 = none ∧ H p0 = some (.row ez0 [.slice a2 x1.Peers.length cap3, .slice a7 x1.Net.length cap8, .slice a11 x1.Chosen.length cap12, .bool x1.Conflict]) ∧ F p0 = none ∧ OD lw0 n H F S0 [] (.slice a2 x1.Peers.length cap3) x1.Peers ∧ Ow n0 n H F a0 cap0 xs0 ∧ Ow n0 n H F a40 cap41 x34 ∧ Ow lw0 n H F a7 cap8 x1.Net ∧ Ow lw0 n H F a11 cap12 x1.Chosen ∧ ¬ S0 n0 ∧ ¬ S0 n35 ∧ ¬ S0 p0 ∧ nP (.slice a0 xs0.length cap0) n0 ∧ nP (.slice a0 xs0.length cap0) n35 ∧ nP (.slice a0 xs0.length cap0) p0 ∧ nS (.slice a0 xs0.length cap0) S0 ∧ nP (.slice a40 x34.length cap41) n0 ∧ nP (.slice a40 x34.length cap41) n35 ∧ nP (.slice a40 x34.length cap41) p0 ∧ nS (.slice a40 x34.length cap41) S0 ∧ nA (.slice a40 x34.length cap41) (.slice a0 xs0.length cap0) ∧ nP (.slice a7 x1.Net.length cap8) n0 ∧ nP (.slice a7 x1.Net.length cap8) n35 ∧ nP (.slice a7 x1.Net.length cap8) p0 ∧ nS (.slice a7 x1.Net.length cap8) S0 ∧ nA (.slice a7 x1.Net.length cap8) (.slice a0 xs0.length cap0) ∧ nA (.slice a7 x1.Net.length cap8) (.slice a40 x34.length cap41) ∧ nP (.slice a11 x1.Chosen.length cap12) n0 ∧ nP (.slice a11 x1.Chosen.length cap12) n35 ∧ nP (.slice a11 x1.Chosen.length cap12) p0 ∧ nS (.slice a11 x1.Chosen.length cap12) S0 ∧ nA (.slice a11 x1.Chosen.length cap12) (.slice a0 xs0.length cap0) ∧ nA (.slice a11 x1.Chosen.length cap12) (.slice a40 x34.length cap41) ∧ nA (.slice a11 x1.Chosen.length cap12) (.slice a7 x1.Net.length cap8) ∧ f_impl_Cluster_told_L0 x1 x34 k0 x0 xs0 = some res) BIG (fr0 := [(0, pt p0 0), (2, pt n0 0), (3, pt n35 0), (21, .slice a2 x1.Peers.length cap3), (22, iv (x1.Peers.length : Int)), (23, iv 0)]) (fl6) ?_ ?_ ?_
 {
 exact ⟨S6, 0, none, 0, [], F44, rfl, hS78, (hE57.up (by omega)), ho82, fo53, ho79, fo69, ho81, fo52, h83, OW.nil, h86, h84, h85, (aD h4), (aD h54), ap18, (fun h => by cases h), (fun h => by cases h), (fun h => by cases h), (fun b h => by cases h), (Ap.fresh0 (OW.lb h42) (by have := lt29; omega)), (aW h58), (Ap.fresh0 (OW.lb h42) (by have := lt0; omega)), (Ap.fresh (OW.lb h42) (OD.hb h31)), (fun b _ h => by cases h), (aW h9), (aW h55), ap19, ap20, (fun b _ h => by cases h), (Ap.sym (Ap.fresh (OW.lb h42) (OW.hb h32))), (aW h13), (aW h56), ap21, ap22, (fun b _ h => by cases h), (Ap.sym (Ap.fresh (OW.lb h42) (OW.hb h33))), ap23, hr⟩
 }
 {
 intro fr n H hI
 obtain ⟨S0, x0, a0, cap0, xs0, F1, hfr, hS1, hE1, ho0, fo0, ho1, fo1, ho2, fo2, h0, h1, h2, h3, h5, ap0, ap1, ap2, ap3, ap4, ap5, ap6, ap7, ap8, ap9, ap10, ap11, ap12, ap13, ap14, ap15, ap16, ap17, ap24, ap25, ap26, ap27, ap28, ap29, ap30, hr⟩ := hI
 rw [f_impl_Cluster_told_L0] at hr
 cases hr
 }
 {
 intro k0 _ n1 H1 hI
 obtain ⟨S0, x0, a0, cap0, xs0, F1, rfl, hS1, hE1, ho0, fo0, ho1, fo1, ho2, fo2, h0, h1, h2, h3, h5, ap0, ap1, ap2, ap3, ap4, ap5, ap6, ap7, ap8, ap9, ap10, ap11, ap12, ap13, ap14, ap15, ap16, ap17, ap24, ap25, ap26, ap27, ap28, ap29, ap30, hr⟩ := hI
 have lt1 := hS1.lt ho0
 have lt2 := hS1.lt ho1
 have lt3 := hS1.lt ho2
 have hlen0 := hE1.le
 have hlon1 := hS1.lo
 rw [f_impl_Cluster_told_L0] at hr
 refine wS (wR (bN rfl rfl (wN (eT (wS ?_)))))
 refine W.condD rfl (fun hc0 => ?_) (fun hc0 => ?_)
 {
 replace hr := ite_pos hr hc0
 refine wK (eT (wS (W.block (wS (wR ?_)))))
 obtain ⟨x2, hx0, hr⟩ := bnd_some hr
 refine GL.indexD .nil rfl rfl rfl U26 info42 rfl rfl h0 rfl hx0 (fun b0 el0 hp0 => ?_)
 obtain ⟨c0, ecs0, hrow0, hwin0, hb0⟩ := OD.get h0 hp0 hx0
 obtain ⟨a1, cap1, a3, cap2, a4, cap4, a5, cap5, rfl⟩ := GPeer.ofB hb0
 obtain ⟨S1, hs0, hs1, hs2, h6, h7⟩ := GPeer.open_Log h0 hp0 hx0 hrow0 hwin0 (List.forall_mem_nil _)
 obtain ⟨S2, hs3, hs4, hs5, h8, h10⟩ := GPeer.open_Votes h7 hp0 hx0 hrow0 hwin0 (List.forall_mem_cons.2 ⟨fun h => absurd (show (5 : Nat) = 6 from h.2) (by decide), List.forall_mem_nil _⟩)
 obtain ⟨S3, hs6, hs7, hs8, h11, h12⟩ := GPeer.open_Next h10 hp0 hx0 hrow0 hwin0 (List.forall_mem_cons.2 ⟨fun h => absurd (show (6 : Nat) = 7 from h.2) (by decide), List.forall_mem_cons.2 ⟨fun h => absurd (show (5 : Nat) = 7 from h.2) (by decide), List.forall_mem_nil _⟩⟩)
 obtain ⟨S4, hs9, hs10, hs11, h14, h15⟩ := GPeer.open_Match h12 hp0 hx0 hrow0 hwin0 (List.forall_mem_cons.2 ⟨fun h => absurd (show (7 : Nat) = 8 from h.2) (by decide), List.forall_mem_cons.2 ⟨fun h => absurd (show (6 : Nat) = 8 from h.2) (by decide), List.forall_mem_cons.2 ⟨fun h => absurd (show (5 : Nat) = 8 from h.2) (by decide), List.forall_mem_nil _⟩⟩⟩)
 refine WL.loadN .nil (l' := [.bool x2.Up, iv x2.Term, iv x2.Vote, iv x2.Commit, iv x2.Role, .slice a1 x2.Log.length cap1, .slice a3 x2.Votes.length cap2, .slice a4 x2.Next.length cap4, .slice a5 x2.Match.length cap5]) rfl rfl rfl U42 rfl info42 rfl hrow0 hwin0 rfl ?_
 refine GL.alloc hS1 .nil (zc := [.bool false, iv 0, iv 0, iv 0, iv 0, .slice none 0 0, .slice none 0 0, .slice none 0 0, .slice none 0 0]) rfl rfl rfl info42 rfl rfl rfl (fun H2 hS2 ho3 hk0 => ?_)
 have fo3 := hS1.fnone (Nat.le_refl _)
 have ho4 := oA hk0 ho0 lt1
 have ho5 := oA hk0 ho1 lt2
 have ho6 := oA hk0 ho2 lt3
 have h16 := OD.keep (n' := (n1 + 1)) h15 (by omega) (fun i hi => hk0 i (OD.id_lt h15 hi).2)
 have h17 := kA (n' := (n1 + 1)) h1 hk0
 have h18 := kA (n' := (n1 + 1)) h2 hk0
 have h19 := kA (n' := (n1 + 1)) h3 hk0
 have h20 := kA (n' := (n1 + 1)) h5 hk0
 have h21 := kA (n' := (n1 + 1)) h6 hk0
 have h22 := kA (n' := (n1 + 1)) h8 hk0
 have h23 := kA (n' := (n1 + 1)) h11 hk0
 have h24 := kA (n' := (n1 + 1)) h14 hk0
 have hlon2 := hS2.lo
 have lt4 : n1 < (n1 + 1) := by omega
 refine GL.store hS2 .nil (vc := [.bool x2.Up, iv x2.Term, iv x2.Vote, iv x2.Commit, iv x2.Role, .slice a1 x2.Log.length cap1, .slice a3 x2.Votes.length cap2, .slice a4 x2.Next.length cap4, .slice a5 x2.Match.length cap5]) (c' := [.bool x2.Up, iv x2.Term, iv x2.Vote, iv x2.Commit, iv x2.Role, .slice a1 x2.Log.length cap1, .slice a3 x2.Votes.length cap2, .slice a4 x2.Next.length cap4, .slice a5 x2.Match.length cap5]) rfl rfl rfl info42 rfl rfl rfl rfl ho3 fo3 (bl rfl) (by omega) bxP rfl (fun H3 hS3 ho7 hk1 => ?_)
 have ho8 := (hk1 _ (by omega)).trans ho4
 have ho9 := (hk1 _ (by omega)).trans ho5
 have ho10 := (hk1 _ (by omega)).trans ho6
 have h25 := OD.keep h16 (Nat.le_refl _) (fun i hi => hk1 i (fun hj => (aD h15) (hj ▸ hi)))
 have h26 := kB h17 hk1 (aW h1)
 have h27 := kB h18 hk1 (aW h2)
 have h28 := kB h19 hk1 (aW h3)
 have h29 := kB h20 hk1 (aW h5)
 have h30 := kB h21 hk1 (aW h6)
 have h34 := kB h22 hk1 (aW h8)
 have h35 := kB h23 hk1 (aW h11)
 have h36 := kB h24 hk1 (aW h14)
 refine wN (eT (wS ?_))
 refine W.regionD [0, 1, 2, 3, 4, 5, 6, 7, 8, 9, 10, 11, 12, 13, 14, 15, 16, 17, 18, 19] [false, false, false, false, false, false, false, false, false, false, false, false, false, true, false, true, false, true, false, true] rfl rfl kr kr mP ?_
 refine fR rfl U42 rfl info28 rfl (lR rfl U28 rfl ho7 rfl ?_)
 obtain ⟨x3, hx1, hr⟩ := bnd_some hr
 refine GL.callP g.good .r rfl rfl rfl rfl rfl rfl Try.func61 rfl rfl (Nat.le_refl _) (f_impl_copyRecs_own0_k  g hS3 h30 hx1) (fun v n2 H4 hn0 hk2 hp1 => ?_)
 obtain ⟨F2, a6, cap6, hX0, hS4, rfl, h37⟩ := hp1
 have ho11 := oA hk2 ho8 lt1
 have ho12 := oA hk2 ho9 lt2
 have ho13 := oA hk2 ho10 lt3
 have ho14 := oA hk2 ho7 lt4
 have h38 := OD.keep (n' := n2) h25 (by omega) (fun i hi => hk2 i (OD.id_lt h25 hi).2)
 have h39 := kA (n' := n2) h26 hk2
 have h40 := kA (n' := n2) h27 hk2
 have h41 := kA (n' := n2) h28 hk2
 have h43 := kA (n' := n2) h29 hk2
 have h44 := kA (n' := n2) h30 hk2
 have h45 := kA (n' := n2) h34 hk2
 have h46 := kA (n' := n2) h35 hk2
 have h47 := kA (n' := n2) h36 hk2
 have hS5 : St n0 n2 H4 F2 := ⟨by have := hS3.lo; omega, hS4.hb, hS4.fh⟩
 have fo4 := fA hX0 lt1 fo0
 have fo5 := fA hX0 lt2 fo1
 have fo6 := fA hX0 lt3 fo2
 have fo7 := fA hX0 lt4 fo3
 have h51 := OD.keepF h38 hX0.sub (fun i hi => (hX0.eq i (by have := OD.id_lt h25 hi; omega)).trans (OD.fnone h38 hi))
 have h52 := OW.keepF h39 hX0.sub (fun i hi => (hX0.eq i (by have := OW.id_lt h26 hi; omega)).trans (OW.fnone h39 hi))
 have h53 := OW.keepF h40 hX0.sub (fun i hi => (hX0.eq i (by have := OW.id_lt h27 hi; omega)).trans (OW.fnone h40 hi))
 have h57 := OW.keepF h41 hX0.sub (fun i hi => (hX0.eq i (by have := OW.id_lt h28 hi; omega)).trans (OW.fnone h41 hi))
 have h59 := OW.keepF h43 hX0.sub (fun i hi => (hX0.eq i (by have := OW.id_lt h29 hi; omega)).trans (OW.fnone h43 hi))
 have h60 := OW.keepF h44 hX0.sub (fun i hi => (hX0.eq i (by have := OW.id_lt h30 hi; omega)).trans (OW.fnone h44 hi))
 have h61 := OW.keepF h45 hX0.sub (fun i hi => (hX0.eq i (by have := OW.id_lt h34 hi; omega)).trans (OW.fnone h45 hi))
 have h62 := OW.keepF h46 hX0.sub (fun i hi => (hX0.eq i (by have := OW.id_lt h35 hi; omega)).trans (OW.fnone h46 hi))
 have h63 := OW.keepF h47 hX0.sub (fun i hi => (hX0.eq i (by have := OW.id_lt h36 hi; omega)).trans (OW.fnone h47 hi))
 have hE2 := (hE1.up (n' := (n1 + 1)) (by omega)).trans hX0
 have hlon3 := hS5.lo
 have h64 := OW.lower (lo' := n0) h37 (by omega)
 refine fR rfl U42 rfl info40 rfl (lR rfl U40 rfl ho14 rfl ?_)
 obtain ⟨x4, hx2, hr⟩ := bnd_some hr
 refine GL.callP g.good .r rfl rfl rfl rfl rfl rfl Try.func62 rfl rfl (Nat.le_refl _) (f_slices_Clone_bool_k  g hS5 (OW.src h61) hx2) (fun v n3 H5 hn1 hk3 hp2 => ?_)
 obtain ⟨a8, cap7, hS6, rfl, h65⟩ := hp2
 have ho16 := oA hk3 ho11 lt1
 have ho17 := oA hk3 ho12 lt2
 have ho18 := oA hk3 ho13 lt3
 have ho19 := oA hk3 ho14 lt4
 have h66 := OD.keep (n' := n3) h51 (by omega) (fun i hi => hk3 i (OD.id_lt h51 hi).2)
 have h67 := kA (n' := n3) h52 hk3
 have h68 := kA (n' := n3) h53 hk3
 have h69 := kA (n' := n3) h57 hk3
 have h70 := kA (n' := n3) h59 hk3
 have h71 := kA (n' := n3) h60 hk3
 have h72 := kA (n' := n3) h61 hk3
 have h77 := kA (n' := n3) h62 hk3
 have h78 := kA (n' := n3) h63 hk3
 have h79 := kA (n' := n3) h64 hk3
 have hS7 : St n0 n3 H5 F2 := ⟨by have := hS5.lo; omega, hS6.hb, hS6.fh⟩
 have hlon4 := hS7.lo
 have h80 := OW.lower (lo' := n0) h65 (by omega)
 refine fR rfl U42 rfl info31 rfl (lR rfl U31 rfl ho19 rfl ?_)
 obtain ⟨x5, hx3, hr⟩ := bnd_some hr
 refine GL.callP g.good .r rfl rfl rfl rfl rfl rfl Try.func63 rfl rfl (Nat.le_refl _) (f_slices_Clone_int_k  g hS7 (OW.src h77) hx3) (fun v n4 H6 hn2 hk4 hp3 => ?_)
 obtain ⟨a9, cap9, hS8, rfl, h81⟩ := hp3
 have ho20 := oA hk4 ho16 lt1
 have ho21 := oA hk4 ho17 lt2
 have ho22 := oA hk4 ho18 lt3
 have ho23 := oA hk4 ho19 lt4
 have h82 := OD.keep (n' := n4) h66 (by omega) (fun i hi => hk4 i (OD.id_lt h66 hi).2)
 have h87 := kA (n' := n4) h67 hk4
 have h88 := kA (n' := n4) h68 hk4
 have h89 := kA (n' := n4) h69 hk4
 have h90 := kA (n' := n4) h70 hk4
 have h91 := kA (n' := n4) h71 hk4
 have h92 := kA (n' := n4) h72 hk4
 have h93 := kA (n' := n4) h77 hk4
 have h94 := kA (n' := n4) h78 hk4
 have h95 := kA (n' := n4) h79 hk4
 have h96 := kA (n' := n4) h80 hk4
 have hS9 : St n0 n4 H6 F2 := ⟨by have := hS7.lo; omega, hS8.hb, hS8.fh⟩
 have hlon5 := hS9.lo
 have h97 := OW.lower (lo' := n0) h81 (by omega)
 refine fR rfl U42 rfl info31 rfl (lR rfl U31 rfl ho23 rfl ?_)
 obtain ⟨x6, hx4, hr⟩ := bnd_some hr
 refine GL.callP g.good .r rfl rfl rfl rfl rfl rfl Try.func63 rfl rfl (Nat.le_refl _) (f_slices_Clone_int_k  g hS9 (OW.src h94) hx4) (fun v n5 H7 hn3 hk5 hp4 => ?_)
 obtain ⟨a10, cap10, hS10, rfl, h98⟩ := hp4
 have ho24 := oA hk5 ho20 lt1
 have ho25 := oA hk5 ho21 lt2
 have ho27 := oA hk5 ho22 lt3
 have ho28 := oA hk5 ho23 lt4
 have h99 := OD.keep (n' := n5) h82 (by omega) (fun i hi => hk5 i (OD.id_lt h82 hi).2)
 have h100 := kA (n' := n5) h87 hk5
 have h101 := kA (n' := n5) h88 hk5
 have h102 := kA (n' := n5) h89 hk5
 have h103 := kA (n' := n5) h90 hk5
 have h104 := kA (n' := n5) h91 hk5
 have h105 := kA (n' := n5) h92 hk5
 have h106 := kA (n' := n5) h93 hk5
 have h107 := kA (n' := n5) h94 hk5
 have h108 := kA (n' := n5) h95 hk5
 have h109 := kA (n' := n5) h96 hk5
 have h110 := kA (n' := n5) h97 hk5
 have hS11 : St n0 n5 H7 F2 := ⟨by have := hS9.lo; omega, hS10.hb, hS10.fh⟩
 have hlon6 := hS11.lo
 have h111 := OW.lower (lo' := n0) h98 (by omega)
 refine fR rfl U42 rfl info28 rfl ?_
 refine GL.store hS11 .w (vc := [.slice a6 x3.length cap6]) (c' := [.bool x2.Up, iv x2.Term, iv x2.Vote, iv x2.Commit, iv x2.Role, .slice a6 x3.length cap6, .slice a3 x2.Votes.length cap2, .slice a4 x2.Next.length cap4, .slice a5 x2.Match.length cap5]) rfl rfl rfl info28 rfl rfl rfl rfl ho28 fo7 (bl rfl) (by omega) (one1 rfl) rfl (fun H8 hS12 ho29 hk6 => ?_)
 have ho31 := (hk6 _ (by omega)).trans ho24
 have ho32 := (hk6 _ (by omega)).trans ho25
 have ho33 := (hk6 _ (by omega)).trans ho27
 have h112 := OD.keep h99 (Nat.le_refl _) (fun i hi => hk6 i (fun hj => (aD h15) (hj ▸ hi)))
 have h113 := kB h100 hk6 (aW h1)
 have h114 := kB h101 hk6 (aW h2)
 have h115 := kB h102 hk6 (aW h3)
 have h116 := kB h103 hk6 (aW h5)
 have h117 := kB h104 hk6 (aW h6)
 have h118 := kB h105 hk6 (aW h8)
 have h119 := kB h106 hk6 (aW h11)
 have h120 := kB h107 hk6 (aW h14)
 have h121 := kB h108 hk6 (Ap.fresh0 (OW.lb h37) (by have := lt4; omega))
 have h122 := kB h109 hk6 (Ap.fresh0 (OW.lb h65) (by have := lt4; omega))
 have h123 := kB h110 hk6 (Ap.fresh0 (OW.lb h81) (by have := lt4; omega))
 have h124 := kB h111 hk6 (Ap.fresh0 (OW.lb h98) (by have := lt4; omega))
 refine fR rfl U42 rfl info40 rfl ?_
 refine GL.store hS12 .w (vc := [.slice a8 x4.length cap7]) (c' := [.bool x2.Up, iv x2.Term, iv x2.Vote, iv x2.Commit, iv x2.Role, .slice a6 x3.length cap6, .slice a8 x4.length cap7, .slice a4 x2.Next.length cap4, .slice a5 x2.Match.length cap5]) rfl rfl rfl info40 rfl rfl rfl rfl ho29 fo7 (bl rfl) (by omega) (one1 rfl) rfl (fun H9 hS13 ho34 hk7 => ?_)
 have ho35 := (hk7 _ (by omega)).trans ho31
 have ho36 := (hk7 _ (by omega)).trans ho32
 have ho37 := (hk7 _ (by omega)).trans ho33
 have h125 := OD.keep h112 (Nat.le_refl _) (fun i hi => hk7 i (fun hj => (aD h15) (hj ▸ hi)))
 have h126 := kB h113 hk7 (aW h1)
 have h127 := kB h114 hk7 (aW h2)
 have h128 := kB h115 hk7 (aW h3)
 have h129 := kB h116 hk7 (aW h5)
 have h130 := kB h117 hk7 (aW h6)
 have h131 := kB h118 hk7 (aW h8)
 have h132 := kB h119 hk7 (aW h11)
 have h133 := kB h120 hk7 (aW h14)
 have h134 := kB h121 hk7 (Ap.fresh0 (OW.lb h37) (by have := lt4; omega))
 have h135 := kB h122 hk7 (Ap.fresh0 (OW.lb h65) (by have := lt4; omega))
 have h136 := kB h123 hk7 (Ap.fresh0 (OW.lb h81) (by have := lt4; omega))
 have h137 := kB h124 hk7 (Ap.fresh0 (OW.lb h98) (by have := lt4; omega))
 refine fR rfl U42 rfl info31 rfl ?_
 refine GL.store hS13 .w (vc := [.slice a9 x5.length cap9]) (c' := [.bool x2.Up, iv x2.Term, iv x2.Vote, iv x2.Commit, iv x2.Role, .slice a6 x3.length cap6, .slice a8 x4.length cap7, .slice a9 x5.length cap9, .slice a5 x2.Match.length cap5]) rfl rfl rfl info31 rfl rfl rfl rfl ho34 fo7 (bl rfl) (by omega) (one1 rfl) rfl (fun H10 hS14 ho38 hk8 => ?_)
 have ho39 := (hk8 _ (by omega)).trans ho35
 have ho40 := (hk8 _ (by omega)).trans ho36
 have ho41 := (hk8 _ (by omega)).trans ho37
 have h138 := OD.keep h125 (Nat.le_refl _) (fun i hi => hk8 i (fun hj => (aD h15) (hj ▸ hi)))
 have h139 := kB h126 hk8 (aW h1)
 have h140 := kB h127 hk8 (aW h2)
 have h141 := kB h128 hk8 (aW h3)
 have h142 := kB h129 hk8 (aW h5)
 have h143 := kB h130 hk8 (aW h6)
 have h144 := kB h131 hk8 (aW h8)
 have h145 := kB h132 hk8 (aW h11)
 have h146 := kB h133 hk8 (aW h14)
 have h147 := kB h134 hk8 (Ap.fresh0 (OW.lb h37) (by have := lt4; omega))
 have h148 := kB h135 hk8 (Ap.fresh0 (OW.lb h65) (by have := lt4; omega))
 have h149 := kB h136 hk8 (Ap.fresh0 (OW.lb h81) (by have := lt4; omega))
 have h150 := kB h137 hk8 (Ap.fresh0 (OW.lb h98) (by have := lt4; omega))
 refine fR rfl U42 rfl info31 rfl ?_
 refine GL.store hS14 .w (vc := [.slice a10 x6.length cap10]) (c' := [.bool x2.Up, iv x2.Term, iv x2.Vote, iv x2.Commit, iv x2.Role, .slice a6 x3.length cap6, .slice a8 x4.length cap7, .slice a9 x5.length cap9, .slice a10 x6.length cap10]) rfl rfl rfl info31 rfl rfl rfl rfl ho38 fo7 (bl rfl) (by omega) (one1 rfl) rfl (fun H11 hS15 ho42 hk9 => ?_)
 have ho43 := (hk9 _ (by omega)).trans ho39
 have ho44 := (hk9 _ (by omega)).trans ho40
 have ho45 := (hk9 _ (by omega)).trans ho41
 have h151 := OD.keep h138 (Nat.le_refl _) (fun i hi => hk9 i (fun hj => (aD h15) (hj ▸ hi)))
 have h152 := kB h139 hk9 (aW h1)
 have h153 := kB h140 hk9 (aW h2)
 have h154 := kB h141 hk9 (aW h3)
 have h155 := kB h142 hk9 (aW h5)
 have h156 := kB h143 hk9 (aW h6)
 have h157 := kB h144 hk9 (aW h8)
 have h158 := kB h145 hk9 (aW h11)
 have h159 := kB h146 hk9 (aW h14)
 have h160 := kB h147 hk9 (Ap.fresh0 (OW.lb h37) (by have := lt4; omega))
 have h161 := kB h148 hk9 (Ap.fresh0 (OW.lb h65) (by have := lt4; omega))
 have h162 := kB h149 hk9 (Ap.fresh0 (OW.lb h81) (by have := lt4; omega))
 have h163 := kB h150 hk9 (Ap.fresh0 (OW.lb h98) (by have := lt4; omega))
 refine wN (eT (wR (fN rfl U30 rfl info26 rfl (lN rfl U26 rfl ho44 rfl (WL.loadN .nil (l' := [.bool x2.Up, iv x2.Term, iv x2.Vote, iv x2.Commit, iv x2.Role, .slice a6 x3.length cap6, .slice a8 x4.length cap7, .slice a9 x5.length cap9, .slice a10 x6.length cap10]) rfl rfl rfl U42 rfl info42 rfl ho42 rfl rfl ?_)))))
 obtain ⟨F3, hS16, hle0, h164, hf0⟩ := OW.freeze h160 hS15
 have fo8 := (hf0 _ (Ap.fresh0 (OW.lb h37) (by have := lt1; omega))).trans fo4
 have fo9 := (hf0 _ (Ap.fresh0 (OW.lb h37) (by have := lt2; omega))).trans fo5
 have fo10 := (hf0 _ (Ap.fresh0 (OW.lb h37) (by have := lt3; omega))).trans fo6
 have h165 := OD.keepF h151 hle0 (fun i hi => (hf0 i (fun hj => (Ap.fresh (OW.lb h37) (OD.hb h25)) i hj hi)).trans (OD.fnone h151 hi))
 have h166 := kF h152 hle0 hf0 (Ap.fresh (OW.lb h37) (OW.hb h26))
 have h167 := kF h153 hle0 hf0 (Ap.fresh (OW.lb h37) (OW.hb h27))
 have h168 := kF h154 hle0 hf0 (Ap.fresh (OW.lb h37) (OW.hb h28))
 have h169 := kF h155 hle0 hf0 (Ap.fresh (OW.lb h37) (OW.hb h29))
 have h170 := kF h156 hle0 hf0 (Ap.fresh (OW.lb h37) (OW.hb h30))
 have h171 := kF h157 hle0 hf0 (Ap.fresh (OW.lb h37) (OW.hb h34))
 have h172 := kF h158 hle0 hf0 (Ap.fresh (OW.lb h37) (OW.hb h35))
 have h173 := kF h159 hle0 hf0 (Ap.fresh (OW.lb h37) (OW.hb h36))
 have h174 := kF h161 hle0 hf0 (Ap.sym (Ap.fresh (OW.lb h65) (OW.hb h64)))
 have h175 := kF h162 hle0 hf0 (Ap.sym (Ap.fresh (OW.lb h81) (OW.hb h79)))
 have h176 := kF h163 hle0 hf0 (Ap.sym (Ap.fresh (OW.lb h98) (OW.hb h95)))
 have hE3 : Ext n0 F0 n5 F3 := ⟨Nat.le_trans hE2.le (by omega), hE2.sub.trans hle0, fun i hi => (hf0 i (fun hj => by have := OW.id_lt h160 hj; omega)).trans (hE2.eq i hi)⟩
 obtain ⟨F4, hS17, hle1, h177, hf1⟩ := OW.freeze h174 hS16
 have fo11 := (hf1 _ (Ap.fresh0 (OW.lb h65) (by have := lt1; omega))).trans fo8
 have fo12 := (hf1 _ (Ap.fresh0 (OW.lb h65) (by have := lt2; omega))).trans fo9
 have fo13 := (hf1 _ (Ap.fresh0 (OW.lb h65) (by have := lt3; omega))).trans fo10
 have h178 := OD.keepF h165 hle1 (fun i hi => (hf1 i (fun hj => (Ap.fresh (OW.lb h65) (OD.hb h51)) i hj hi)).trans (OD.fnone h165 hi))
 have h179 := kF h166 hle1 hf1 (Ap.fresh (OW.lb h65) (OW.hb h52))
 have h180 := kF h167 hle1 hf1 (Ap.fresh (OW.lb h65) (OW.hb h53))
 have h181 := kF h168 hle1 hf1 (Ap.fresh (OW.lb h65) (OW.hb h57))
 have h182 := kF h169 hle1 hf1 (Ap.fresh (OW.lb h65) (OW.hb h59))
 have h183 := kF h170 hle1 hf1 (Ap.fresh (OW.lb h65) (OW.hb h60))
 have h184 := kF h171 hle1 hf1 (Ap.fresh (OW.lb h65) (OW.hb h61))
 have h185 := kF h172 hle1 hf1 (Ap.fresh (OW.lb h65) (OW.hb h62))
 have h186 := kF h173 hle1 hf1 (Ap.fresh (OW.lb h65) (OW.hb h63))
 have h187 := kF h175 hle1 hf1 (Ap.sym (Ap.fresh (OW.lb h81) (OW.hb h80)))
 have h188 := kF h176 hle1 hf1 (Ap.sym (Ap.fresh (OW.lb h98) (OW.hb h96)))
 have hE4 : Ext n0 F0 n5 F4 := ⟨Nat.le_trans hE3.le (by omega), hE3.sub.trans hle1, fun i hi => (hf1 i (fun hj => by have := OW.id_lt h174 hj; omega)).trans (hE3.eq i hi)⟩
 obtain ⟨F5, hS18, hle2, h189, hf2⟩ := OW.freeze h187 hS17
 have fo14 := (hf2 _ (Ap.fresh0 (OW.lb h81) (by have := lt1; omega))).trans fo11
 have fo15 := (hf2 _ (Ap.fresh0 (OW.lb h81) (by have := lt2; omega))).trans fo12
 have fo17 := (hf2 _ (Ap.fresh0 (OW.lb h81) (by have := lt3; omega))).trans fo13
 have h190 := OD.keepF h178 hle2 (fun i hi => (hf2 i (fun hj => (Ap.fresh (OW.lb h81) (OD.hb h66)) i hj hi)).trans (OD.fnone h178 hi))
 have h191 := kF h179 hle2 hf2 (Ap.fresh (OW.lb h81) (OW.hb h67))
 have h192 := kF h180 hle2 hf2 (Ap.fresh (OW.lb h81) (OW.hb h68))
 have h193 := kF h181 hle2 hf2 (Ap.fresh (OW.lb h81) (OW.hb h69))
 have h194 := kF h182 hle2 hf2 (Ap.fresh (OW.lb h81) (OW.hb h70))
 have h195 := kF h183 hle2 hf2 (Ap.fresh (OW.lb h81) (OW.hb h71))
 have h196 := kF h184 hle2 hf2 (Ap.fresh (OW.lb h81) (OW.hb h72))
 have h197 := kF h185 hle2 hf2 (Ap.fresh (OW.lb h81) (OW.hb h77))
 have h198 := kF h186 hle2 hf2 (Ap.fresh (OW.lb h81) (OW.hb h78))
 have h199 := kF h188 hle2 hf2 (Ap.sym (Ap.fresh (OW.lb h98) (OW.hb h97)))
 have hE5 : Ext n0 F0 n5 F5 := ⟨Nat.le_trans hE4.le (by omega), hE4.sub.trans hle2, fun i hi => (hf2 i (fun hj => by have := OW.id_lt h187 hj; omega)).trans (hE4.eq i hi)⟩
 obtain ⟨F6, hS19, hle3, h200, hf3⟩ := OW.freeze h199 hS18
 have fo18 := (hf3 _ (Ap.fresh0 (OW.lb h98) (by have := lt1; omega))).trans fo14
 have fo19 := (hf3 _ (Ap.fresh0 (OW.lb h98) (by have := lt2; omega))).trans fo15
 have fo20 := (hf3 _ (Ap.fresh0 (OW.lb h98) (by have := lt3; omega))).trans fo17
 have h201 := OD.keepF h190 hle3 (fun i hi => (hf3 i (fun hj => (Ap.fresh (OW.lb h98) (OD.hb h82)) i hj hi)).trans (OD.fnone h190 hi))
 have h202 := kF h191 hle3 hf3 (Ap.fresh (OW.lb h98) (OW.hb h87))
 have h203 := kF h192 hle3 hf3 (Ap.fresh (OW.lb h98) (OW.hb h88))
 have h204 := kF h193 hle3 hf3 (Ap.fresh (OW.lb h98) (OW.hb h89))
 have h205 := kF h194 hle3 hf3 (Ap.fresh (OW.lb h98) (OW.hb h90))
 have h206 := kF h195 hle3 hf3 (Ap.fresh (OW.lb h98) (OW.hb h91))
 have h207 := kF h196 hle3 hf3 (Ap.fresh (OW.lb h98) (OW.hb h92))
 have h208 := kF h197 hle3 hf3 (Ap.fresh (OW.lb h98) (OW.hb h93))
 have h209 := kF h198 hle3 hf3 (Ap.fresh (OW.lb h98) (OW.hb h94))
 have hE6 : Ext n0 F0 n5 F6 := ⟨Nat.le_trans hE5.le (by omega), hE5.sub.trans hle3, fun i hi => (hf3 i (fun hj => by have := OW.id_lt h199 hj; omega)).trans (hE5.eq i hi)⟩
 refine GL.lit (cs := [.bool x2.Up, iv x2.Term, iv x2.Vote, iv x2.Commit, iv x2.Role, .slice a6 x3.length cap6, .slice a8 x4.length cap7, .slice a9 x5.length cap9, .slice a10 x6.length cap10]) (xs := ([(⟨x2.Up, x2.Term, x2.Vote, x2.Commit, x2.Role, x3, x4, x5, x6⟩ : GPeer)] : List GPeer)) hS19 .nil rfl rfl rfl U26 info42 rfl rfl rfl (by decide) (by decide) rfl rfl rfl rfl rfl (RA.cons (cs := [.bool x2.Up, iv x2.Term, iv x2.Vote, iv x2.Commit, iv x2.Role, .slice a6 x3.length cap6, .slice a8 x4.length cap7, .slice a9 x5.length cap9, .slice a10 x6.length cap10]) (a := ((⟨x2.Up, x2.Term, x2.Vote, x2.Commit, x2.Role, x3, x4, x5, x6⟩ : GPeer) : GPeer)) (GPeer.toR (x := (⟨x2.Up, x2.Term, x2.Vote, x2.Commit, x2.Role, x3, x4, x5, x6⟩ : GPeer)) (((h164.mono hle1).mono hle2).mono hle3) ((h177.mono hle2).mono hle3) (h189.mono hle3) h200) RA.nil) rfl (fun H12 hS20 hO0 hk10 => ?_)
 have ho48 := oA hk10 ho43 lt1
 have ho49 := oA hk10 ho44 lt2
 have ho50 := oA hk10 ho45 lt3
 have h210 := OD.keep (n' := (n5 + 1)) h201 (by omega) (fun i hi => hk10 i (OD.id_lt h201 hi).2)
 have h211 := kA (n' := (n5 + 1)) h202 hk10
 have h212 := kA (n' := (n5 + 1)) h203 hk10
 have h213 := kA (n' := (n5 + 1)) h204 hk10
 have h214 := kA (n' := (n5 + 1)) h205 hk10
 have h215 := kA (n' := (n5 + 1)) h206 hk10
 have h216 := kA (n' := (n5 + 1)) h207 hk10
 have h217 := kA (n' := (n5 + 1)) h208 hk10
 have h218 := kA (n' := (n5 + 1)) h209 hk10
 have h219 := OW.lower (lo' := n0) hO0 (by omega)
 have hlon7 := hS20.lo
 obtain ⟨hc1, hr⟩ := chk_some hr
 refine GL.append (α := GPeer) hS20 .nil rfl rfl rfl U26 U26 rfl info42 rfl rfl rfl (by decide) rfl rfl h211 (by omega) (by omega) (OW.src h219) hc1 (fun a12 cap11 n6 H13 hS21 hn4 hO1 hk11 hid0 => ?_)
 have ho51 := (hk11 _ (by have := lt1; omega) ap3).trans ho48
 have ho52 := (hk11 _ (by have := lt2; omega) ap4).trans ho49
 have ho53 := (hk11 _ (by have := lt3; omega) ap5).trans ho50
 have h220 := OD.keep h210 hn4 (fun i hi => hk11 i (OD.id_lt h210 hi).2 (fun hj => (Ap.sym (Ap.sub hs9 (Ap.sub hs6 (Ap.sub hs3 (Ap.sub hs0 (Ap.sym ap6)))))) _ hj hi))
 have h221 := OW.keep h212 hn4 (fun i hi => hk11 i (OW.id_lt h212 hi).2 (fun hj => (Ap.sym ap11) _ hj hi))
 have h222 := OW.keep h213 hn4 (fun i hi => hk11 i (OW.id_lt h213 hi).2 (fun hj => (Ap.sym ap16) _ hj hi))
 have h223 := OW.keep h214 hn4 (fun i hi => hk11 i (OW.id_lt h214 hi).2 (fun hj => (Ap.sym ap28) _ hj hi))
 have h224 := OW.keep h215 hn4 (fun i hi => hk11 i (OW.id_lt h215 hi).2 (fun hj => (Ap.sym (Ap.sub hs1 (Ap.sym ap6))) _ hj hi))
 have h225 := OW.keep h216 hn4 (fun i hi => hk11 i (OW.id_lt h216 hi).2 (fun hj => (Ap.sym (Ap.sub hs4 (Ap.sub hs0 (Ap.sym ap6)))) _ hj hi))
 have h226 := OW.keep h217 hn4 (fun i hi => hk11 i (OW.id_lt h217 hi).2 (fun hj => (Ap.sym (Ap.sub hs7 (Ap.sub hs3 (Ap.sub hs0 (Ap.sym ap6))))) _ hj hi))
 have h227 := OW.keep h218 hn4 (fun i hi => hk11 i (OW.id_lt h218 hi).2 (fun hj => (Ap.sym (Ap.sub hs10 (Ap.sub hs6 (Ap.sub hs3 (Ap.sub hs0 (Ap.sym ap6)))))) _ hj hi))
 have ap31 : ∀ b, idOf (.slice a12 (xs0 ++ ([(⟨x2.Up, x2.Term, x2.Vote, x2.Commit, x2.Role, x3, x4, x5, x6⟩ : GPeer)] : List GPeer)).length cap11) = some b → ¬ S4 b := Ap.new hid0 (OD.hb h210) (Ap.sym (Ap.sub hs9 (Ap.sub hs6 (Ap.sub hs3 (Ap.sub hs0 (Ap.sym ap6))))))
 have ap32 : ∀ b, idOf (.slice a12 (xs0 ++ ([(⟨x2.Up, x2.Term, x2.Vote, x2.Commit, x2.Role, x3, x4, x5, x6⟩ : GPeer)] : List GPeer)).length cap11) = some b → nP (.slice a5 x2.Match.length cap5) b := Ap.new hid0 (OW.hb h218) (Ap.sym (Ap.sub hs10 (Ap.sub hs6 (Ap.sub hs3 (Ap.sub hs0 (Ap.sym ap6))))))
 have hlon8 := hS21.lo
 refine fN rfl U30 rfl info26 rfl ?_
 refine GL.store hS21 .nil (vc := [.slice a12 (xs0 ++ ([(⟨x2.Up, x2.Term, x2.Vote, x2.Commit, x2.Role, x3, x4, x5, x6⟩ : GPeer)] : List GPeer)).length cap11]) (c' := [.slice a12 (xs0 ++ ([(⟨x2.Up, x2.Term, x2.Vote, x2.Commit, x2.Role, x3, x4, x5, x6⟩ : GPeer)] : List GPeer)).length cap11, .slice none 0 0, .slice a40 x34.length cap41, .bool x1.Conflict]) rfl rfl rfl info26 rfl rfl rfl rfl ho52 fo19 (bl rfl) (by omega) (one1 rfl) rfl (fun H14 hS22 ho54 hk12 => ?_)
 have ho55 := (hk12 _ (by omega)).trans ho51
 have ho56 := (hk12 _ (by omega)).trans ho53
 have h228 := OD.keep h220 (Nat.le_refl _) (fun i hi => hk12 i (fun hj => (Ap.sub0 hs9 (Ap.sub0 hs6 (Ap.sub0 hs3 (Ap.sub0 hs0 ap1)))) (hj ▸ hi)))
 have h229 := kB h221 hk12 ap8
 have h230 := kB h222 hk12 ap13
 have h231 := kB h223 hk12 ap25
 have h232 := kB h224 hk12 (Ap.sub0 hs1 ap1)
 have h233 := kB h225 hk12 (Ap.sub0 hs4 (Ap.sub0 hs0 ap1))
 have h234 := kB h226 hk12 (Ap.sub0 hs7 (Ap.sub0 hs3 (Ap.sub0 hs0 ap1)))
 have h235 := kB h227 hk12 (Ap.sub0 hs10 (Ap.sub0 hs6 (Ap.sub0 hs3 (Ap.sub0 hs0 ap1))))
 have h236 := kB hO1 hk12 (Ap.new0 hid0 (by have := lt2; omega) ap4)
 refine wN (eB (eT (wR ?_)))
 obtain ⟨hc2, hr⟩ := chk_some hr
 refine WL.addI .nil rfl rfl rfl rfl rfl hc2.1 hc2.2 (mN rfl (wN (eT ?_)))
 obtain ⟨S5, hs12, h237⟩ := GPeer.close0_Match h228 hx0 h235
 have ap33 : ¬ S5 n0 := Ap.or0 hs12 (Ap.sub0 hs9 (Ap.sub0 hs6 (Ap.sub0 hs3 (Ap.sub0 hs0 ap0)))) (Ap.sub0 hs10 (Ap.sub0 hs6 (Ap.sub0 hs3 (Ap.sub0 hs0 ap0))))
 have ap34 : ¬ S5 n35 := Ap.or0 hs12 (Ap.sub0 hs9 (Ap.sub0 hs6 (Ap.sub0 hs3 (Ap.sub0 hs0 ap1)))) (Ap.sub0 hs10 (Ap.sub0 hs6 (Ap.sub0 hs3 (Ap.sub0 hs0 ap1))))
 have ap35 : ¬ S5 p0 := Ap.or0 hs12 (Ap.sub0 hs9 (Ap.sub0 hs6 (Ap.sub0 hs3 (Ap.sub0 hs0 ap2)))) (Ap.sub0 hs10 (Ap.sub0 hs6 (Ap.sub0 hs3 (Ap.sub0 hs0 ap2))))
 have ap36 : Sn S5 (.slice a40 x34.length cap41) := Ap.or hs12 (Ap.sub hs9 (Ap.sub hs6 (Ap.sub hs3 (Ap.sub hs0 (Ap.sym ap10))))) (Ap.sub hs10 (Ap.sub hs6 (Ap.sub hs3 (Ap.sub hs0 (Ap.sym ap10)))))
 have ap37 : Sn S5 (.slice a7 x1.Net.length cap8) := Ap.or hs12 (Ap.sub hs9 (Ap.sub hs6 (Ap.sub hs3 (Ap.sub hs0 (Ap.sym ap15))))) (Ap.sub hs10 (Ap.sub hs6 (Ap.sub hs3 (Ap.sub hs0 (Ap.sym ap15)))))
 have ap38 : Sn S5 (.slice a11 x1.Chosen.length cap12) := Ap.or hs12 (Ap.sub hs9 (Ap.sub hs6 (Ap.sub hs3 (Ap.sub hs0 (Ap.sym ap27))))) (Ap.sub hs10 (Ap.sub hs6 (Ap.sub hs3 (Ap.sub hs0 (Ap.sym ap27)))))
 obtain ⟨S7, hs13, h238⟩ := GPeer.close0_Next h237 hx0 h234
 have ap39 : ∀ b, S7 b → idOf (.slice a12 (xs0 ++ ([(⟨x2.Up, x2.Term, x2.Vote, x2.Commit, x2.Role, x3, x4, x5, x6⟩ : GPeer)] : List GPeer)).length cap11) ≠ some b := Ap.or hs13 (Ap.or hs12 (Ap.sym ap31) (Ap.sym ap32)) (Ap.sym (Ap.new hid0 (OW.hb h217) (Ap.sym (Ap.sub hs7 (Ap.sub hs3 (Ap.sub hs0 (Ap.sym ap6)))))))
 obtain ⟨S8, hs14, h239⟩ := GPeer.close0_Votes h238 hx0 h233
 have ap40 : ¬ S8 n0 := Ap.or0 hs14 (Ap.or0 hs13 ap33 (Ap.sub0 hs7 (Ap.sub0 hs3 (Ap.sub0 hs0 ap0)))) (Ap.sub0 hs4 (Ap.sub0 hs0 ap0))
 have ap41 : ¬ S8 n35 := Ap.or0 hs14 (Ap.or0 hs13 ap34 (Ap.sub0 hs7 (Ap.sub0 hs3 (Ap.sub0 hs0 ap1)))) (Ap.sub0 hs4 (Ap.sub0 hs0 ap1))
 have ap42 : ¬ S8 p0 := Ap.or0 hs14 (Ap.or0 hs13 ap35 (Ap.sub0 hs7 (Ap.sub0 hs3 (Ap.sub0 hs0 ap2)))) (Ap.sub0 hs4 (Ap.sub0 hs0 ap2))
 have ap43 : Sn S8 (.slice a40 x34.length cap41) := Ap.or hs14 (Ap.or hs13 ap36 (Ap.sub hs7 (Ap.sub hs3 (Ap.sub hs0 (Ap.sym ap10))))) (Ap.sub hs4 (Ap.sub hs0 (Ap.sym ap10)))
 have ap44 : Sn S8 (.slice a7 x1.Net.length cap8) := Ap.or hs14 (Ap.or hs13 ap37 (Ap.sub hs7 (Ap.sub hs3 (Ap.sub hs0 (Ap.sym ap15))))) (Ap.sub hs4 (Ap.sub hs0 (Ap.sym ap15)))
 have ap45 : Sn S8 (.slice a11 x1.Chosen.length cap12) := Ap.or hs14 (Ap.or hs13 ap38 (Ap.sub hs7 (Ap.sub hs3 (Ap.sub hs0 (Ap.sym ap27))))) (Ap.sub hs4 (Ap.sub hs0 (Ap.sym ap27)))
 have ap46 : ∀ b, S8 b → idOf (.slice a12 (xs0 ++ ([(⟨x2.Up, x2.Term, x2.Vote, x2.Commit, x2.Role, x3, x4, x5, x6⟩ : GPeer)] : List GPeer)).length cap11) ≠ some b := Ap.or hs14 ap39 (Ap.sym (Ap.new hid0 (OW.hb h216) (Ap.sym (Ap.sub hs4 (Ap.sub hs0 (Ap.sym ap6))))))
 obtain ⟨S9, hs15, h240⟩ := GPeer.close0_Log h239 hx0 h232
 exact ⟨[(0, pt p0 0), (2, pt n0 0), (3, pt n35 0), (21, .slice a2 x1.Peers.length cap3), (22, iv (x1.Peers.length : Int)), (23, iv (x0 + 1))], (fl6), S9, (x0 + 1), a12, cap11, (xs0 ++ ([(⟨x2.Up, x2.Term, x2.Vote, x2.Commit, x2.Role, x3, x4, x5, x6⟩ : GPeer)] : List GPeer)), F6, rfl, hS22, (hE6.up (by omega)), ho55, fo18, ho54, fo19, ho56, fo20, h240, h236, h229, h230, h231, (Ap.or0 hs15 ap40 (Ap.sub0 hs1 ap0)), (Ap.or0 hs15 ap41 (Ap.sub0 hs1 ap1)), (Ap.or0 hs15 ap42 (Ap.sub0 hs1 ap2)), (Ap.new0 hid0 (by have := lt1; omega) ap3), (Ap.new0 hid0 (by have := lt2; omega) ap4), (Ap.new0 hid0 (by have := lt3; omega) ap5), (Ap.sym (Ap.or hs15 ap46 (Ap.sym (Ap.new hid0 (OW.hb h215) (Ap.sym (Ap.sub hs1 (Ap.sym ap6))))))), ap7, ap8, ap9, (Ap.sym (Ap.or hs15 ap43 (Ap.sub hs1 (Ap.sym ap10)))), (Ap.sym (Ap.new hid0 (OW.hb h212) (Ap.sym ap11))), ap12, ap13, ap14, (Ap.sym (Ap.or hs15 ap44 (Ap.sub hs1 (Ap.sym ap15)))), (Ap.sym (Ap.new hid0 (OW.hb h213) (Ap.sym ap16))), ap17, ap24, ap25, ap26, (Ap.sym (Ap.or hs15 ap45 (Ap.sub hs1 (Ap.sym ap27)))), (Ap.sym (Ap.new hid0 (OW.hb h214) (Ap.sym ap28))), ap29, ap30, hr⟩
 }
 {
 replace hr := ite_neg hr hc0
 refine W.exit (eX (eX (eH (eT (wS (wS (wR (mN rfl (zN rfl (fN rfl U30 rfl info27 rfl (lN rfl U27 rfl ho2 rfl ?_)))))))))))
 refine WL.len .nil rfl rfl rfl U27 rfl (mN rfl (wN (eT (W.block ?_))))
 refine W.loopF (fun k1 fr n H => ∃ (x7 : Int) (a13 : OA) (cap13 : Nat) (xs1 : (List GMsg)) (S10 : Nat → Prop) (F : Heap), fr = [(2, pt n0 0), (3, pt n35 0), (53, .slice a7 x1.Net.length cap8), (54, iv (x1.Net.length : Int)), (55, iv x7)] ∧ St n0 n H F ∧ Ext n0 F0 n F ∧ H n0 = some (.row 1 [.slice none 0 0, .slice none 0 0, .slice none 0 0, .bool false]) ∧ F n0 = none ∧ H n35 = some (.row 1 [.slice a0 xs0.length cap0, .slice a13 xs1.length cap13, .slice a40 x34.length cap41, .bool x1.Conflict]) ∧ F n35 = none ∧ H p0 = some (.row ez0 [.slice a2 x1.Peers.length cap3, .slice a7 x1.Net.length cap8, .slice a11 x1.Chosen.length cap12, .bool x1.Conflict]) ∧ F p0 = none ∧ Ow lw0 n H F a7 cap8 x1.Net ∧ Ow n0 n H F a0 cap0 xs0 ∧ Ow n0 n H F a13 cap13 xs1 ∧ Ow n0 n H F a40 cap41 x34 ∧ OD lw0 n H F S10 [] (.slice a2 x1.Peers.length cap3) x1.Peers ∧ Ow lw0 n H F a11 cap12 x1.Chosen ∧ nP (.slice a7 x1.Net.length cap8) n0 ∧ nP (.slice a7 x1.Net.length cap8) n35 ∧ nP (.slice a7 x1.Net.length cap8) p0 ∧ nP (.slice a0 xs0.length cap0) n0 ∧ nP (.slice a0 xs0.length cap0) n35 ∧ nP (.slice a0 xs0.length cap0) p0 ∧ nA (.slice a0 xs0.length cap0) (.slice a7 x1.Net.length cap8) ∧ nP (.slice a13 xs1.length cap13) n0 ∧ nP (.slice a13 xs1.length cap13) n35 ∧ nP (.slice a13 xs1.length cap13) p0 ∧ nA (.slice a13 xs1.length cap13) (.slice a7 x1.Net.length cap8) ∧ nA (.slice a13 xs1.length cap13) (.slice a0 xs0.length cap0) ∧ nP (.slice a40 x34.length cap41) n0 ∧ nP (.slice a40 x34.length cap41) n35 ∧ nP (.slice a40 x34.length cap41) p0 ∧ nA (.slice a40 x34.length cap41) (.slice a7 x1.Net.length cap8) ∧ nA (.slice a40 x34.length cap41) (.slice a0 xs0.length cap0) ∧ nA (.slice a40 x34.length cap41) (.slice a13 xs1.length cap13) ∧ ¬ S10 n0 ∧ ¬ S10 n35 ∧ ¬ S10 p0 ∧ Sn S10 (.slice a7 x1.Net.length cap8) ∧ Sn S10 (.slice a0 xs0.length cap0) ∧ Sn S10 (.slice a13 xs1.length cap13) ∧ Sn S10 (.slice a40 x34.length cap41) ∧ nP (.slice a11 x1.Chosen.length cap12) n0 ∧ nP (.slice a11 x1.Chosen.length cap12) n35 ∧ nP (.slice a11 x1.Chosen.length cap12) p0 ∧ nA (.slice a11 x1.Chosen.length cap12) (.slice a7 x1.Net.length cap8) ∧ nA (.slice a11 x1.Chosen.length cap12) (.slice a0 xs0.length cap0) ∧ nA (.slice a11 x1.Chosen.length cap12) (.slice a13 xs1.length cap13) ∧ nA (.slice a11 x1.Chosen.length cap12) (.slice a40 x34.length cap41) ∧ nS (.slice a11 x1.Chosen.length cap12) S10 ∧ f_impl_Cluster_told_L1 x1 xs0 x34 k1 x7 xs1 = some res) BIG (fr0 := [(2, pt n0 0), (3, pt n35 0), (53, .slice a7 x1.Net.length cap8), (54, iv (x1.Net.length : Int)), (55, iv 0)]) (fl5) ?_ ?_ ?_
 {
 exact ⟨0, none, 0, [], S0, F1, rfl, hS1, hE1, ho0, fo0, ho1, fo1, ho2, fo2, h3, h1, OW.nil, h2, h0, h5, ap12, ap13, ap14, ap3, ap4, ap5, (Ap.sym ap16), (fun h => by cases h), (fun h => by cases h), (fun h => by cases h), (fun b h => by cases h), (fun b h => by cases h), ap7, ap8, ap9, (Ap.sym ap17), ap11, (fun b _ h => by cases h), ap0, ap1, ap2, (Ap.sym ap15), (Ap.sym ap6), (fun b _ h => by cases h), (Ap.sym ap10), ap24, ap25, ap26, ap30, ap28, (fun b _ h => by cases h), ap29, ap27, hr⟩
 }
 {
 intro fr n H hI
 obtain ⟨x7, a13, cap13, xs1, S10, F7, hfr, hS23, hE7, ho57, fo21, ho58, fo22, ho59, fo23, h241, h242, h243, h244, h245, h246, ap47, ap48, ap49, ap50, ap51, ap52, ap53, ap54, ap55, ap56, ap57, ap58, ap59, ap60, ap61, ap62, ap63, ap64, ap65, ap66, ap67, ap68, ap69, ap70, ap71, ap72, ap73, ap74, ap75, ap76, ap77, ap78, ap79, hr⟩ := hI
 rw [f_impl_Cluster_told_L1] at hr
 cases hr
 }
 {
 intro k1 _ n7 H15 hI
 obtain ⟨x7, a13, cap13, xs1, S10, F7, rfl, hS23, hE7, ho57, fo21, ho58, fo22, ho59, fo23, h241, h242, h243, h244, h245, h246, ap47, ap48, ap49, ap50, ap51, ap52, ap53, ap54, ap55, ap56, ap57, ap58, ap59, ap60, ap61, ap62, ap63, ap64, ap65, ap66, ap67, ap68, ap69, ap70, ap71, ap72, ap73, ap74, ap75, ap76, ap77, ap78, ap79, hr⟩ := hI
 have lt5 := hS23.lt ho57
 have lt6 := hS23.lt ho58
 have lt7 := hS23.lt ho59
 have hlen1 := hE7.le
 have hlon9 := hS23.lo
 rw [f_impl_Cluster_told_L1] at hr
 refine wS (wR (bN rfl rfl (wN (eT (wS ?_)))))
 refine W.condD rfl (fun hc3 => ?_) (fun hc3 => ?_)
 {
 replace hr := ite_pos hr hc3
 refine wK (eT (wS (W.block (wS (wR ?_)))))
 obtain ⟨x8, hx5, hr⟩ := bnd_some hr
 refine GL.indexO .nil rfl rfl rfl U27 info85 rfl rfl h241 rfl hx5 (fun b1 kp0 c1 ecs1 hid1 hrow1 hwin1 hR0 hup0 => ?_)
 obtain ⟨a14, cap14, rfl, h247⟩ := GMsg.ofR hR0
 refine WL.loadN .nil (l' := [iv x8.Kind, iv x8.From, iv x8.To, iv x8.Term, iv x8.A, iv x8.B, iv x8.C, .bool x8.Ok, .slice a14 x8.Log.length cap14]) rfl rfl rfl U85 rfl info85 rfl hrow1 hwin1 rfl ?_
 refine GL.alloc hS23 .nil (zc := [iv 0, iv 0, iv 0, iv 0, iv 0, iv 0, iv 0, .bool false, .slice none 0 0]) rfl rfl rfl info85 rfl rfl rfl (fun H16 hS24 ho60 hk13 => ?_)
 have fo24 := hS23.fnone (Nat.le_refl _)
 have ho61 := oA hk13 ho57 lt5
 have ho62 := oA hk13 ho58 lt6
 have ho63 := oA hk13 ho59 lt7
 have h248 := kA (n' := (n7 + 1)) h241 hk13
 have h249 := kA (n' := (n7 + 1)) h242 hk13
 have h250 := kA (n' := (n7 + 1)) h243 hk13
 have h251 := kA (n' := (n7 + 1)) h244 hk13
 have h252 := OD.keep (n' := (n7 + 1)) h245 (by omega) (fun i hi => hk13 i (OD.id_lt h245 hi).2)
 have h253 := kA (n' := (n7 + 1)) h246 hk13
 have hlon10 := hS24.lo
 have lt8 : n7 < (n7 + 1) := by omega
 refine GL.store hS24 .nil (vc := [iv x8.Kind, iv x8.From, iv x8.To, iv x8.Term, iv x8.A, iv x8.B, iv x8.C, .bool x8.Ok, .slice a14 x8.Log.length cap14]) (c' := [iv x8.Kind, iv x8.From, iv x8.To, iv x8.Term, iv x8.A, iv x8.B, iv x8.C, .bool x8.Ok, .slice a14 x8.Log.length cap14]) rfl rfl rfl info85 rfl rfl rfl rfl ho60 fo24 (bl rfl) (by omega) bxP rfl (fun H17 hS26 ho64 hk14 => ?_)
 have ho65 := (hk14 _ (by omega)).trans ho61
 have ho66 := (hk14 _ (by omega)).trans ho62
 have ho68 := (hk14 _ (by omega)).trans ho63
 have h254 := kB h248 hk14 (aW h241)
 have h255 := kB h249 hk14 (aW h242)
 have h256 := kB h250 hk14 (aW h243)
 have h257 := kB h251 hk14 (aW h244)
 have h258 := OD.keep h252 (Nat.le_refl _) (fun i hi => hk14 i (fun hj => (aD h245) (hj ▸ hi)))
 have h259 := kB h253 hk14 (aW h246)
 refine wN (eT ?_)
 refine W.regionD [0, 1, 2, 3, 4, 5, 6, 7] [false, false, false, false, false, true, false, true] rfl rfl kr kr mP ?_
 refine fR rfl U30 rfl info27 rfl (lR rfl U27 rfl ho66 rfl (WL.loadN .r (l' := [iv x8.Kind, iv x8.From, iv x8.To, iv x8.Term, iv x8.A, iv x8.B, iv x8.C, .bool x8.Ok, .slice a14 x8.Log.length cap14]) rfl rfl rfl U85 rfl info85 rfl ho64 rfl rfl ?_))
 obtain ⟨x9, hx6, hr⟩ := bnd_some hr
 refine GL.callP g.good .r rfl rfl rfl rfl rfl rfl Try.func64 rfl rfl (Nat.le_refl _) (f__impl_Msg_copied_k (x1 := (⟨x8.Kind, x8.From, x8.To, x8.Term, x8.A, x8.B, x8.C, x8.Ok, x8.Log⟩ : GMsg)) g hS26 h247 hx6) (fun v n8 H18 hn5 hk15 hp5 => ?_)
 obtain ⟨F8, a15, cap15, hX1, hS27, rfl, h260⟩ := hp5
 have ho69 := oA hk15 ho65 lt5
 have ho70 := oA hk15 ho66 lt6
 have ho73 := oA hk15 ho68 lt7
 have h261 := kA (n' := n8) h254 hk15
 have h262 := kA (n' := n8) h255 hk15
 have h263 := kA (n' := n8) h256 hk15
 have h264 := kA (n' := n8) h257 hk15
 have h265 := OD.keep (n' := n8) h258 (by omega) (fun i hi => hk15 i (OD.id_lt h258 hi).2)
 have h266 := kA (n' := n8) h259 hk15
 have hS28 : St n0 n8 H18 F8 := ⟨by have := hS26.lo; omega, hS27.hb, hS27.fh⟩
 have fo25 := fA hX1 lt5 fo21
 have fo26 := fA hX1 lt6 fo22
 have fo27 := fA hX1 lt7 fo23
 have h267 := OW.keepF h261 hX1.sub (fun i hi => (hX1.eq i (by have := OW.id_lt h254 hi; omega)).trans (OW.fnone h261 hi))
 have h268 := OW.keepF h262 hX1.sub (fun i hi => (hX1.eq i (by have := OW.id_lt h255 hi; omega)).trans (OW.fnone h262 hi))
 have h269 := OW.keepF h263 hX1.sub (fun i hi => (hX1.eq i (by have := OW.id_lt h256 hi; omega)).trans (OW.fnone h263 hi))
 have h270 := OW.keepF h264 hX1.sub (fun i hi => (hX1.eq i (by have := OW.id_lt h257 hi; omega)).trans (OW.fnone h264 hi))
 have h271 := OD.keepF h265 hX1.sub (fun i hi => (hX1.eq i (by have := OD.id_lt h258 hi; omega)).trans (OD.fnone h265 hi))
 have h272 := OW.keepF h266 hX1.sub (fun i hi => (hX1.eq i (by have := OW.id_lt h259 hi; omega)).trans (OW.fnone h266 hi))
 have hE8 := (hE7.up (n' := (n7 + 1)) (by omega)).trans hX1
 have hlon11 := hS28.lo
 refine GL.lit (cs := [iv x9.Kind, iv x9.From, iv x9.To, iv x9.Term, iv x9.A, iv x9.B, iv x9.C, .bool x9.Ok, .slice a15 x9.Log.length cap15]) (xs := ([(⟨x9.Kind, x9.From, x9.To, x9.Term, x9.A, x9.B, x9.C, x9.Ok, x9.Log⟩ : GMsg)] : List GMsg)) hS28 .r rfl rfl rfl U27 info85 rfl rfl rfl (by decide) (by decide) rfl rfl rfl rfl rfl (RA.cons (cs := [iv x9.Kind, iv x9.From, iv x9.To, iv x9.Term, iv x9.A, iv x9.B, iv x9.C, .bool x9.Ok, .slice a15 x9.Log.length cap15]) (a := ((⟨x9.Kind, x9.From, x9.To, x9.Term, x9.A, x9.B, x9.C, x9.Ok, x9.Log⟩ : GMsg) : GMsg)) (GMsg.toR (x := (⟨x9.Kind, x9.From, x9.To, x9.Term, x9.A, x9.B, x9.C, x9.Ok, x9.Log⟩ : GMsg)) h260) RA.nil) rfl (fun H19 hS29 hO2 hk16 => ?_)
 have ho74 := oA hk16 ho69 lt5
 have ho75 := oA hk16 ho70 lt6
 have ho76 := oA hk16 ho73 lt7
 have h273 := kA (n' := (n8 + 1)) h267 hk16
 have h274 := kA (n' := (n8 + 1)) h268 hk16
 have h275 := kA (n' := (n8 + 1)) h269 hk16
 have h276 := kA (n' := (n8 + 1)) h270 hk16
 have h277 := OD.keep (n' := (n8 + 1)) h271 (by omega) (fun i hi => hk16 i (OD.id_lt h271 hi).2)
 have h278 := kA (n' := (n8 + 1)) h272 hk16
 have h279 := OW.lower (lo' := n0) hO2 (by omega)
 have hlon12 := hS29.lo
 obtain ⟨hc4, hr⟩ := chk_some hr
 refine GL.append (α := GMsg) hS29 .w rfl rfl rfl U27 U27 rfl info85 rfl rfl rfl (by decide) rfl rfl h275 (by omega) (by omega) (OW.src h279) hc4 (fun a16 cap16 n9 H20 hS30 hn6 hO3 hk17 hid2 => ?_)
 have ho77 := (hk17 _ (by have := lt5; omega) ap54).trans ho74
 have ho78 := (hk17 _ (by have := lt6; omega) ap55).trans ho75
 have ho80 := (hk17 _ (by have := lt7; omega) ap56).trans ho76
 have h280 := OW.keep h273 hn6 (fun i hi => hk17 i (OW.id_lt h273 hi).2 (fun hj => ap57 _ hj hi))
 have h281 := OW.keep h274 hn6 (fun i hi => hk17 i (OW.id_lt h274 hi).2 (fun hj => ap58 _ hj hi))
 have h282 := OW.keep h276 hn6 (fun i hi => hk17 i (OW.id_lt h276 hi).2 (fun hj => (Ap.sym ap64) _ hj hi))
 have h283 := OD.keep h277 hn6 (fun i hi => hk17 i (OD.id_lt h277 hi).2 (fun hj => (Ap.sym ap70) _ hj hi))
 have h284 := OW.keep h278 hn6 (fun i hi => hk17 i (OW.id_lt h278 hi).2 (fun hj => (Ap.sym ap77) _ hj hi))
 have hlon13 := hS30.lo
 refine fR rfl U30 rfl info27 rfl ?_
 refine GL.store hS30 .w (vc := [.slice a16 (xs1 ++ ([(⟨x9.Kind, x9.From, x9.To, x9.Term, x9.A, x9.B, x9.C, x9.Ok, x9.Log⟩ : GMsg)] : List GMsg)).length cap16]) (c' := [.slice a0 xs0.length cap0, .slice a16 (xs1 ++ ([(⟨x9.Kind, x9.From, x9.To, x9.Term, x9.A, x9.B, x9.C, x9.Ok, x9.Log⟩ : GMsg)] : List GMsg)).length cap16, .slice a40 x34.length cap41, .bool x1.Conflict]) rfl rfl rfl info27 rfl rfl rfl rfl ho78 fo26 (bl rfl) (by omega) (one1 rfl) rfl (fun H21 hS31 ho83 hk18 => ?_)
 have ho84 := (hk18 _ (by omega)).trans ho77
 have ho85 := (hk18 _ (by omega)).trans ho80
 have h285 := kB h280 hk18 ap48
 have h286 := kB h281 hk18 ap51
 have h287 := kB h282 hk18 ap60
 have h288 := OD.keep h283 (Nat.le_refl _) (fun i hi => hk18 i (fun hj => ap66 (hj ▸ hi)))
 have h289 := kB h284 hk18 ap73
 have h290 := kB hO3 hk18 (Ap.new0 hid2 (by have := lt6; omega) ap55)
 refine wN (eB (eT (wR ?_)))
 obtain ⟨hc5, hr⟩ := chk_some hr
 refine WL.addI .nil rfl rfl rfl rfl rfl hc5.1 hc5.2 (mN rfl (wN (eT ?_)))
 exact ⟨[(2, pt n0 0), (3, pt n35 0), (53, .slice a7 x1.Net.length cap8), (54, iv (x1.Net.length : Int)), (55, iv (x7 + 1))], (fl5), (x7 + 1), a16, cap16, (xs1 ++ ([(⟨x9.Kind, x9.From, x9.To, x9.Term, x9.A, x9.B, x9.C, x9.Ok, x9.Log⟩ : GMsg)] : List GMsg)), S10, F8, rfl, hS31, (hE8.up (by omega)), ho84, fo25, ho83, fo26, ho85, fo27, h285, h286, h290, h287, h288, h289, ap47, ap48, ap49, ap50, ap51, ap52, ap53, (Ap.new0 hid2 (by have := lt5; omega) ap54), (Ap.new0 hid2 (by have := lt6; omega) ap55), (Ap.new0 hid2 (by have := lt7; omega) ap56), (Ap.new hid2 (OW.hb h273) ap57), (Ap.new hid2 (OW.hb h274) ap58), ap59, ap60, ap61, ap62, ap63, (Ap.sym (Ap.new hid2 (OW.hb h276) (Ap.sym ap64))), ap65, ap66, ap67, ap68, ap69, (Ap.sym (Ap.new hid2 (OD.hb h277) (Ap.sym ap70))), ap71, ap72, ap73, ap74, ap75, ap76, (Ap.sym (Ap.new hid2 (OW.hb h278) (Ap.sym ap77))), ap78, ap79, hr⟩
 }
 {
 replace hr := ite_neg hr hc3
 refine W.exit (eX (eX (eH (eT (wS (wR (WL.loadN .nil (l' := [.slice a0 xs0.length cap0, .slice a13 xs1.length cap13, .slice a40 x34.length cap41, .bool x1.Conflict]) rfl rfl rfl U30 rfl info30 rfl ho58 rfl rfl ?_)))))))
 refine GL.store hS23 .nil (vc := [.slice a0 xs0.length cap0, .slice a13 xs1.length cap13, .slice a40 x34.length cap41, .bool x1.Conflict]) (c' := [.slice a0 xs0.length cap0, .slice a13 xs1.length cap13, .slice a40 x34.length cap41, .bool x1.Conflict]) rfl rfl rfl info30 rfl rfl rfl rfl ho57 fo21 (bl rfl) (by omega) bxP rfl (fun H22 hS32 ho86 hk19 => ?_)
 have h291 := kB h242 hk19 ap50
 have h292 := kB h243 hk19 ap54
 have h293 := kB h244 hk19 ap59
 refine wN (eT (W.ret ?_))
 obtain ⟨F9, hS33, hle4, h294, hf4⟩ := OW.freeze h291 hS32
 have h295 := kF h292 hle4 hf4 (Ap.sym ap58)
 have h296 := kF h293 hle4 hf4 (Ap.sym ap63)
 have hE9 : Ext n0 F0 n7 F9 := ⟨Nat.le_trans hE7.le (by omega), hE7.sub.trans hle4, fun i hi => (hf4 i (fun hj => by have := OW.id_lt h291 hj; omega)).trans (hE7.eq i hi)⟩
 obtain ⟨F10, hS34, hle5, h297, hf5⟩ := OW.freeze h295 hS33
 have h298 := kF h296 hle5 hf5 (Ap.sym ap64)
 have hE10 : Ext n0 F0 n7 F10 := ⟨Nat.le_trans hE9.le (by omega), hE9.sub.trans hle5, fun i hi => (hf5 i (fun hj => by have := OW.id_lt h295 hj; omega)).trans (hE9.eq i hi)⟩
 obtain ⟨F11, hS35, hle6, h299, hf6⟩ := OW.freeze h298 hS34
 have hE11 : Ext n0 F0 n7 F11 := ⟨Nat.le_trans hE10.le (by omega), hE10.sub.trans hle6, fun i hi => (hf6 i (fun hj => by have := OW.id_lt h298 hj; omega)).trans (hE10.eq i hi)⟩
 obtain rfl := Option.some.inj hr
 exact ⟨.inr rfl, _, (.cons (.cellN (l := [.slice a0 xs0.length cap0, .slice a13 xs1.length cap13, .slice a40 x34.length cap41, .bool x1.Conflict]) rfl U30 rfl info30 ho86 rfl rfl) .nil), ⟨F11, a0, cap0, a13, cap13, a40, cap41, (hE11.up (by omega)), hS35, rfl, ((h294.mono hle5).mono hle6), (h297.mono hle6), h299⟩⟩
 }
 }
 }
 }
theorem f_impl_ClusterRun_k {Δ : Prims} (g : Env Try.prog Δ) {lo n0 : Nat} {H0 F0 : Heap} (hS : St lo n0 H0 F0) {x1 : Int} {a3 : Option Addr} {cap4 : Nat} {xs2 : (List GEvent)} (h5 : SR F0 (.slice a3 xs2.length cap4) xs2) {res : (GCluster × (List Int) × Int)} (hr : f_impl_ClusterRun x1 xs2 = some res) :
    C Try.prog Δ n0 8 [iv x1, .slice a3 xs2.length cap4] n0 H0 (fun v n H => ∃ (F : Heap) (ra1 : OA) (rcap2 : Nat) (ra4 : OA) (rcap5 : Nat) (ra7 : OA) (rcap8 : Nat) (ra10 : OA) (rcap11 : Nat), Ext n0 F0 n F ∧ St n0 n H F ∧ v = .tuple #[.agg [.slice ra1 res.1.Peers.length rcap2, .slice ra4 res.1.Net.length rcap5, .slice ra7 res.1.Chosen.length rcap8, .bool res.1.Conflict].toArray, .slice ra10 res.2.1.length rcap11, iv res.2.2] ∧ SR F (.slice ra1 res.1.Peers.length rcap2) res.1.Peers ∧ SR F (.slice ra4 res.1.Net.length rcap5) res.1.Net ∧ SR F (.slice ra7 res.1.Chosen.length rcap8) res.1.Chosen ∧ Ow n0 n H F ra10 rcap11 res.2.1) := by
 refine C.body Try.func8 rfl rfl ?_
 unfold f_impl_ClusterRun at hr
 have hS0 : St n0 n0 H0 F0 := hS.low (Nat.le_refl _)
 have hE0 := Ext.refl n0 F0
 have hlo0 := hS0.lo
 refine wS (wR ?_)
 refine GL.alloc hS0 .nil (zc := [.slice none 0 0, .slice none 0 0, .slice none 0 0, .bool false]) rfl rfl rfl info30 rfl rfl rfl (fun H6 hS7 ho8 hk9 => ?_)
 have fo10 := hS0.fnone (Nat.le_refl _)
 have hlon01 := hS7.lo
 have lt11 : n0 < (n0 + 1) := by omega
 refine aN rfl (aN rfl (wN (eT (wS (wS (wR (mN rfl (WL.len .nil rfl rfl rfl U25 rfl ?_))))))))
 obtain ⟨x12, hx12, hr⟩ := bnd_some hr
 refine GL.callP g.good .nil rfl rfl rfl rfl rfl rfl Try.func28 rfl rfl hS7.lo (f_impl_longList_k  g hS7 hx12) (fun v n13 H14 hn15 hk16 hp17 => ?_)
 obtain ⟨hS18, rfl⟩ := hp17
 have ho19 := oA hk16 ho8 lt11
 have hS20 : St n0 n13 H14 F0 := ⟨by have := hS7.lo; omega, hS18.hb, hS18.fh⟩
 have hlon13 := hS20.lo
 refine mN rfl ?_
 obtain ⟨x21, hx21, hr⟩ := bnd_some hr
 refine GL.callP g.good .nil rfl rfl rfl rfl rfl rfl Try.func30 rfl rfl hS20.lo (f_impl_within_k  g hS20 hx21) (fun v n22 H23 hn24 hk25 hp26 => ?_)
 obtain ⟨hS27, rfl⟩ := hp26
 have ho28 := oA hk25 ho19 lt11
 have hS29 : St n0 n22 H23 F0 := ⟨by have := hS20.lo; omega, hS27.hb, hS27.fh⟩
 have hlon22 := hS29.lo
 obtain ⟨x30, hx30, hr⟩ := bnd_some hr
 refine GL.callP g.good .nil rfl rfl rfl rfl rfl rfl Try.func29 rfl rfl hS29.lo (f_impl_unless_k  g hS29 hx30) (fun v n31 H32 hn33 hk34 hp35 => ?_)
 obtain ⟨hS36, rfl⟩ := hp35
 have ho37 := oA hk34 ho28 lt11
 have hS38 : St n0 n31 H32 F0 := ⟨by have := hS29.lo; omega, hS36.hb, hS36.fh⟩
 have hlon31 := hS38.lo
 refine mN rfl (WL.len .nil rfl rfl rfl U25 rfl (bN rfl rfl ?_))
 obtain ⟨x39, hx39, hr⟩ := bnd_some hr
 refine GL.callP g.good .nil rfl rfl rfl rfl rfl rfl Try.func29 rfl rfl hS38.lo (f_impl_unless_k  g hS38 hx39) (fun v n40 H41 hn42 hk43 hp44 => ?_)
 obtain ⟨hS45, rfl⟩ := hp44
 have ho46 := oA hk43 ho37 lt11
 have hS47 : St n0 n40 H41 F0 := ⟨by have := hS38.lo; omega, hS45.hb, hS45.fh⟩
 have hlon40 := hS47.lo
 refine GL.lit (cs := [iv x12, iv x30, iv x39]) (xs := ([x12, x30, x39] : List Int)) hS47 .nil rfl rfl rfl U31 info3 rfl rfl rfl (by decide) (by decide) rfl rfl rfl rfl rfl (RA.cons (cs := [iv x12]) (a := (x12 : Int)) rfl (RA.cons (cs := [iv x30]) (a := (x30 : Int)) rfl (RA.cons (cs := [iv x39]) (a := (x39 : Int)) rfl RA.nil))) rfl (fun H48 hS49 hO50 hk51 => ?_)
 have ho52 := oA hk51 ho46 lt11
 have h53 := OW.lower (lo' := n0) hO50 (by omega)
 have hlon0 := hS49.lo
 obtain ⟨F56, hS57, hle58, h59, hf60⟩ := OW.freeze h53 hS49
 obtain ⟨x63, hx63, hr⟩ := bnd_some hr
 refine GL.callP g.good .nil rfl rfl rfl rfl rfl rfl Try.func27 rfl rfl hS49.lo (f_impl_first_k  g hS57 h59 hx63) (fun v n64 H65 hn66 hk67 hp68 => ?_)
 obtain ⟨hS69, rfl⟩ := hp68
 have ho70 := oA hk67 ho52 lt11
 have hS72 : St n0 n64 H65 F0 := ⟨by have := hS49.lo; omega, hS69.hb, fun i o hi => (hk67 i (hS49.lt (hS49.fh i o hi))).trans (hS49.fh i o hi)⟩
 have hlon64 := hS72.lo
 refine aN rfl (wN (eT (wS (wR (mN rfl (bN rfl rfl (wN (eT ?_))))))))
 refine W.condN rfl (fun hc79 => ?_) (fun hc79 => ?_)
 {
 replace hr := ite_neg hr hc79
 refine wS (wR ?_)
 refine WL.buildL .nil (cells := [.slice none 0 0, .slice none 0 0, .slice none 0 0, .bool false]) rfl rfl rfl U30 info30 rfl rfl rfl (by simp only [List.mapM_cons, List.mapM_nil, info26, info27, info28, info4]; rfl) rfl (by first | rfl | ((conv => lhs; simp [splice, fillL, cells_int, cells_bool, cells_string, cells_str, cells_slice, cells_ptr, cells_map, cells_func, cells_nilFunc, cells_nilIface, cells_iface, cells_agg, cells_u8]) <;> rfl)) ?_
 refine mN rfl ?_
 refine GL.store hS72 .nil (vc := [.slice none 0 0, .slice none 0 0, .slice none 0 0, .bool false]) (c' := [.slice none 0 0, .slice none 0 0, .slice none 0 0, .bool false]) rfl rfl rfl info30 rfl rfl rfl rfl ho70 fo10 (bl rfl) (by omega) bxP rfl (fun H80 hS81 ho82 hk83 => ?_)
 refine aN rfl (aN rfl (wN (eT (W.ret (eR ?_)))))
 obtain rfl := Option.some.inj hr
 exact ⟨.inr rfl, _, (.cons (.cellN (l := [.slice none 0 0, .slice none 0 0, .slice none 0 0, .bool false]) rfl U30 rfl info30 ho82 rfl rfl) (.cons (.tmp rfl) (.cons (.tmp rfl) .nil))), ⟨F0, none, 0, none, 0, none, 0, none, 0, (hE0.up (by omega)), hS81, rfl, SR.nil, SR.nil, SR.nil, OW.nil⟩⟩
 }
 {
 replace hr := ite_pos hr hc79
 refine wK (eT (wS (wR (mN rfl ?_))))
 obtain ⟨x85, hx85, hr⟩ := bnd_some hr
 refine GL.callP g.good .nil rfl rfl rfl rfl rfl rfl Try.func31 rfl rfl hS72.lo (f_impl_newCluster_k  g hS72 hx85) (fun v n86 H87 hn88 hk89 hp90 => ?_)
 obtain ⟨F1, a95, cap96, S98, a99, cap0, a0, cap1, p91, hX0, hS1, rfl, lo92, ho93, fo94, h97, h0, h1, ap0, ap1, ap2, ap3, ap4, ap5⟩ := hp90
 have ho0 := oA hk89 ho70 lt11
 have hS2 : St n0 n86 H87 F1 := ⟨by have := hS72.lo; omega, hS1.hb, hS1.fh⟩
 have fo0 := fA hX0 lt11 fo10
 have hE1 := (hE0.up (n' := n64) (by omega)).trans hX0
 have hlon86 := hS2.lo
 have h2 := OD.lower (lo' := n0) h97 (by omega)
 have h3 := OW.lower (lo' := n0) h0 (by omega)
 have h4 := OW.lower (lo' := n0) h1 (by omega)
 have lt0 := hS2.lt ho93
 refine GL.lit (cs := []) (xs := ([] : List Int)) hS2 .nil rfl rfl rfl U31 info3 rfl rfl rfl (by decide) (by decide) rfl rfl rfl rfl rfl RA.nil rfl (fun H1 hS3 hO0 hk0 => ?_)
 have ho1 := oA hk0 ho0 lt11
 have ho2 := oA hk0 ho93 lt0
 have h6 := OD.keep (n' := (n86 + 1)) h2 (by omega) (fun i hi => hk0 i (OD.id_lt h2 hi).2)
 have h7 := kA (n' := (n86 + 1)) h3 hk0
 have h8 := kA (n' := (n86 + 1)) h4 hk0
 have h9 := OW.lower (lo' := n0) hO0 (by omega)
 have hlon1 := hS3.lo
 refine aN rfl (aN rfl (wN (eT (wS (wS (wR (mN rfl (WL.len .nil rfl rfl rfl U25 rfl (mN rfl (wN (eT ?_)))))))))))
 refine W.block ?_
 refine W.loopF (fun k0 fr n H => ∃ (a1 : OA) (cap2 : Nat) (xs0 : (List Int)) (x0 : Int) (xs1 : (List GPeer)) (S0 : Nat → Prop) (a2 : OA) (cap3 : Nat) (xs3 : (List GMsg)) (a4 : OA) (cap5 : Nat) (xs4 : (List GRec)) (x2 : Bool) (F : Heap), fr = [(4, pt n0 0), (8, pt p91 0), (9, .slice a1 xs0.length cap2), (31, .slice a3 xs2.length cap4), (32, iv (xs2.length : Int)), (33, iv x0)] ∧ St n0 n H F ∧ Ext n0 F0 n F ∧ H n0 = some (.row 1 [.slice none 0 0, .slice none 0 0, .slice none 0 0, .bool false]) ∧ F n0 = none ∧ H p91 = some (.row 1 [.slice a95 x85.Peers.length cap96, .slice a2 xs3.length cap3, .slice a4 xs4.length cap5, .bool x2]) ∧ F p91 = none ∧ Ow n0 n H F a1 cap2 xs0 ∧ SR F (.slice a3 xs2.length cap4) xs2 ∧ OD n0 n H F S0 [] (.slice a95 x85.Peers.length cap96) xs1 ∧ x85.Peers.length = xs1.length ∧ Ow n0 n H F a2 cap3 xs3 ∧ Ow n0 n H F a4 cap5 xs4 ∧ nP (.slice a1 xs0.length cap2) n0 ∧ nP (.slice a1 xs0.length cap2) p91 ∧ ¬ S0 n0 ∧ ¬ S0 p91 ∧ Sn S0 (.slice a1 xs0.length cap2) ∧ nP (.slice a2 xs3.length cap3) n0 ∧ nP (.slice a2 xs3.length cap3) p91 ∧ nA (.slice a2 xs3.length cap3) (.slice a1 xs0.length cap2) ∧ nS (.slice a2 xs3.length cap3) S0 ∧ nP (.slice a4 xs4.length cap5) n0 ∧ nP (.slice a4 xs4.length cap5) p91 ∧ nA (.slice a4 xs4.length cap5) (.slice a1 xs0.length cap2) ∧ nS (.slice a4 xs4.length cap5) S0 ∧ nA (.slice a4 xs4.length cap5) (.slice a2 xs3.length cap3) ∧ f_impl_ClusterRun_L0 xs2 k0 xs0 x0 xs1 xs3 xs4 x2 = some res) BIG (fr0 := [(4, pt n0 0), (8, pt p91 0), (9, .slice (some ⟨n86, 0, none⟩) ([] : List Int).length 0), (31, .slice a3 xs2.length cap4), (32, iv (xs2.length : Int)), (33, iv 0)]) (fl6) ?_ ?_ ?_
 {
 exact ⟨(some ⟨n86, 0, none⟩), 0, ([] : List Int), 0, x85.Peers, S98, a99, cap0, x85.Net, a0, cap1, x85.Chosen, x85.Conflict, F1, rfl, hS3, (hE1.up (by omega)), ho1, fo0, ho2, fo94, h9, (h5.mono hX0.sub), h6, rfl, h7, h8, (Ap.fresh0 (OW.lb hO0) (by have := lt11; omega)), (Ap.fresh0 (OW.lb hO0) (by have := lt0; omega)), (Ap.fresh0 (OD.lb h97) (by have := lt11; omega)), ap0, (Ap.sym (Ap.fresh (OW.lb hO0) (OD.hb h2))), (Ap.fresh0 (OW.lb h0) (by have := lt11; omega)), ap1, (Ap.sym (Ap.fresh (OW.lb hO0) (OW.hb h3))), ap3, (Ap.fresh0 (OW.lb h1) (by have := lt11; omega)), ap2, (Ap.sym (Ap.fresh (OW.lb hO0) (OW.hb h4))), ap4, ap5, hr⟩
 }
 {
 intro fr n H hI
 obtain ⟨a1, cap2, xs0, x0, xs1, S0, a2, cap3, xs3, a4, cap5, xs4, x2, F2, hfr, hS4, hE2, ho3, fo1, ho4, fo2, h10, h11, h12, hl0, h13, h14, ap6, ap7, ap8, ap9, ap10, ap11, ap12, ap13, ap14, ap15, ap16, ap17, ap18, ap19, hr⟩ := hI
 rw [f_impl_ClusterRun_L0] at hr
 cases hr
 }
 {
 intro k0 _ n1 H2 hI
 obtain ⟨a1, cap2, xs0, x0, xs1, S0, a2, cap3, xs3, a4, cap5, xs4, x2, F2, rfl, hS4, hE2, ho3, fo1, ho4, fo2, h10, h11, h12, hl0, h13, h14, ap6, ap7, ap8, ap9, ap10, ap11, ap12, ap13, ap14, ap15, ap16, ap17, ap18, ap19, hr⟩ := hI
 have lt1 := hS4.lt ho3
 have lt2 := hS4.lt ho4
 have hlen0 := hE2.le
 have hlon2 := hS4.lo
 rw [f_impl_ClusterRun_L0] at hr
 refine wS (wR (bN rfl rfl (wN (eT (wS ?_)))))
 refine W.condD rfl (fun hc0 => ?_) (fun hc0 => ?_)
 {
 replace hr := ite_pos hr hc0
 refine wK (eT (wS (W.block (wS (wR ?_)))))
 obtain ⟨x3, hx0, hr⟩ := bnd_some hr
 refine GL.index .nil rfl rfl rfl U25 info24 rfl rfl h11 hS4.fh rfl hx0 (fun b0 kp0 c0 ecs0 hrow0 hwin0 hR0 => ?_)
 obtain ⟨a5, cap6, rfl, h15⟩ := GEvent.ofR hR0
 refine WL.loadN .nil (l' := [iv x3.Kind, iv x3.N, .slice a5 x3.Data.length cap6]) rfl rfl rfl U24 rfl info24 rfl hrow0 hwin0 rfl ?_
 refine GL.alloc hS4 .nil (zc := [iv 0, iv 0, .slice none 0 0]) rfl rfl rfl info24 rfl rfl rfl (fun H3 hS5 ho5 hk1 => ?_)
 have fo3 := hS4.fnone (Nat.le_refl _)
 have ho6 := oA hk1 ho3 lt1
 have ho7 := oA hk1 ho4 lt2
 have h16 := kA (n' := (n1 + 1)) h10 hk1
 have h17 := OD.keep (n' := (n1 + 1)) h12 (by omega) (fun i hi => hk1 i (OD.id_lt h12 hi).2)
 have h18 := kA (n' := (n1 + 1)) h13 hk1
 have h19 := kA (n' := (n1 + 1)) h14 hk1
 have hlon3 := hS5.lo
 have lt3 : n1 < (n1 + 1) := by omega
 refine GL.store hS5 .nil (vc := [iv x3.Kind, iv x3.N, .slice a5 x3.Data.length cap6]) (c' := [iv x3.Kind, iv x3.N, .slice a5 x3.Data.length cap6]) rfl rfl rfl info24 rfl rfl rfl rfl ho5 fo3 (bl rfl) (by omega) bxP rfl (fun H4 hS6 ho9 hk2 => ?_)
 have ho10 := (hk2 _ (by omega)).trans ho6
 have ho11 := (hk2 _ (by omega)).trans ho7
 have h20 := kB h16 hk2 (aW h10)
 have h21 := OD.keep h17 (Nat.le_refl _) (fun i hi => hk2 i (fun hj => (aD h12) (hj ▸ hi)))
 have h22 := kB h18 hk2 (aW h13)
 have h23 := kB h19 hk2 (aW h14)
 refine wN (eT (wR (mN rfl (mN rfl (WL.loadN .nil (l' := [iv x3.Kind, iv x3.N, .slice a5 x3.Data.length cap6]) rfl rfl rfl U24 rfl info24 rfl ho9 rfl rfl ?_)))))
 obtain ⟨x4, hx1, hr⟩ := bnd_some hr
 refine GL.callIO g .nil (fun i => (F2 i).isSome = true ∨ i = p91 ∨ S0 i ∨ idOf (.slice a2 xs3.length cap3) = some i ∨ idOf (.slice a4 xs4.length cap5) = some i) rfl rfl rfl rfl rfl rfl Try.func32 rfl rfl (Nat.le_refl _) hS6.lo (f_impl_Cluster_event_k (x1 := (⟨xs1, xs3, xs4, x2⟩ : GCluster)) (x18 := (⟨x3.Kind, x3.N, x3.Data⟩ : GEvent)) g (St.vis hS6 (fun i hi => .inl hi)) (by rw [← hl0]; exact vis_get ho11 (.inr (.inl rfl))) fo2 (by omega) (OD.head hl0 (OD.vis h21 (fun i hi => (.inr (.inr (.inl hi)))))) (OW.vis h22 (fun i hi => (.inr (.inr (.inr (.inl hi)))))) (OW.vis h23 (fun i hi => (.inr (.inr (.inr (.inr (hi))))))) h15 ap9 ap12 ap14 ap16 ap18 ap19 hx1) (fun v n2 H5 H7 hn0 hp0 hle0 hnew0 hk3 hd0 => ?_)
 obtain ⟨F3, S1, a6, cap7, a7, cap8, hX1, hS8, ho12, rfl, h24, hl1, h25, h26, ap20, ap21, ap22, ap23, ap24, ap25⟩ := hp0
 have hS9 : St n0 n2 H5 _ := sA hS8 hnew0 hle0
 have ho13 := (hk3 _ (by have := lt1; omega) (oE5 (nF fo1) (by omega) ap8 ap11 ap15)).trans ho10
 have ho14 := (hk3 _ (by have := lt3; omega) (oE5 (nF fo3) (by omega) (aD h12) (aW h13) (aW h14))).trans ho9
 have h27 := OW.keep (n' := n2) h20 (by omega) (fun i hi => hk3 i (OW.id_lt h20 hi).2 (oE5 (nF (OW.fnone h20 hi)) (fun h => ap7 (h ▸ hi)) (fun h => ap10 _ h hi) (fun h => ap13 _ h hi) (fun h => ap17 _ h hi)))
 have fo4 := fA hX1 lt1 fo1
 have fo5 := fA hX1 lt2 fo2
 have h28 := OW.keepF h27 hX1.sub (fun i hi => (hX1.eq i (by have := (OW.hb h20) i hi; omega)).trans (OW.fnone h27 hi))
 have hE3 := (hE2.up (n' := (n1 + 1)) (by omega)).trans hX1
 have ho15 := hle0 _ _ ho12
 have h29 := OD.le h24 hle0
 have hl2 : x85.Peers.length = x4.1.Peers.length := hl0.trans hl1
 rw [← hl0] at h29
 have h30 := OW.le h25 hle0
 have h31 := OW.le h26 hle0
 rw [← hl0] at ho15
 have ap26 : ¬ S1 n0 := fun hj => (OD.after h24 hd0 hj).elim (fun h => by have := lt1; omega) (oE5 (nF fo1) (by omega) ap8 ap11 ap15)
 have ap27 : Sn S1 (.slice a1 xs0.length cap2) := fun b hj hi => (OD.after h24 hd0 hj).elim (fun h => by have := (OW.hb h20) b hi; omega) (oE5 (nF (OW.fnone h20 hi)) (fun h => ap7 (h ▸ hi)) (fun h => ap10 _ h hi) (fun h => ap13 _ h hi) (fun h => ap17 _ h hi))
 have qq0 := noS (b := n0) hd0 (oE5 (nF fo1) (by omega) ap8 ap11 ap15)
 have ap28 := nAf h25 hd0 lt1 qq0
 have ap29 : nA (.slice a6 x4.1.Net.length cap7) (.slice a1 xs0.length cap2) := fun b hj hi => (OW.after h25 hd0 hj).elim (fun h => by have := (OW.hb h20) b hi; omega) (oE5 (nF (OW.fnone h20 hi)) (fun h => ap7 (h ▸ hi)) (fun h => ap10 _ h hi) (fun h => ap13 _ h hi) (fun h => ap17 _ h hi))
 have qq1 := noS (b := n0) hd0 (oE5 (nF fo1) (by omega) ap8 ap11 ap15)
 have ap30 := nAf h26 hd0 lt1 qq1
 have ap31 : nA (.slice a7 x4.1.Chosen.length cap8) (.slice a1 xs0.length cap2) := fun b hj hi => (OW.after h26 hd0 hj).elim (fun h => by have := (OW.hb h20) b hi; omega) (oE5 (nF (OW.fnone h20 hi)) (fun h => ap7 (h ▸ hi)) (fun h => ap10 _ h hi) (fun h => ap13 _ h hi) (fun h => ap17 _ h hi))
 have hlon4 := hS9.lo
 have lt4 := hS9.lt ho13
 have lt5 := hS9.lt ho15
 have lt6 := hS9.lt ho14
 refine GL.lit (cs := [iv x4.2]) (xs := ([x4.2] : List Int)) hS9 .nil rfl rfl rfl U31 info3 rfl rfl rfl (by decide) (by decide) rfl rfl rfl rfl rfl (RA.cons (cs := [iv x4.2]) (a := (x4.2 : Int)) rfl RA.nil) rfl (fun H8 hS10 hO1 hk4 => ?_)
 have ho16 := oA hk4 ho13 lt4
 have ho17 := oA hk4 ho15 lt5
 have h32 := kA (n' := (n2 + 1)) h28 hk4
 have h33 := OD.keep (n' := (n2 + 1)) h29 (by omega) (fun i hi => hk4 i (OD.id_lt h29 hi).2)
 have h34 := kA (n' := (n2 + 1)) h30 hk4
 have h35 := kA (n' := (n2 + 1)) h31 hk4
 have h36 := OW.lower (lo' := n0) hO1 (by omega)
 have hlon5 := hS10.lo
 obtain ⟨hc1, hr⟩ := chk_some hr
 refine GL.append (α := Int) hS10 .nil rfl rfl rfl U31 U31 rfl info3 rfl rfl rfl (by decide) rfl rfl h32 (by omega) (by omega) (OW.src h36) hc1 (fun a8 cap9 n3 H9 hS11 hn1 hO2 hk5 hid0 => ?_)
 have ho18 := (hk5 _ (by have := lt4; omega) ap6).trans ho16
 have ho20 := (hk5 _ (by have := lt5; omega) ap7).trans ho17
 have h37 := OD.keep h33 hn1 (fun i hi => hk5 i (OD.id_lt h33 hi).2 (fun hj => (Ap.sym ap27) _ hj hi))
 have h38 := OW.keep h34 hn1 (fun i hi => hk5 i (OW.id_lt h34 hi).2 (fun hj => (Ap.sym ap29) _ hj hi))
 have h39 := OW.keep h35 hn1 (fun i hi => hk5 i (OW.id_lt h35 hi).2 (fun hj => (Ap.sym ap31) _ hj hi))
 have hlon6 := hS11.lo
 refine aN rfl (wN (eB (eT (wR ?_))))
 obtain ⟨hc2, hr⟩ := chk_some hr
 refine WL.addI .nil rfl rfl rfl rfl rfl hc2.1 hc2.2 (mN rfl (wN (eT ?_)))
 exact ⟨[(4, pt n0 0), (8, pt p91 0), (9, .slice a8 (xs0 ++ ([x4.2] : List Int)).length cap9), (31, .slice a3 xs2.length cap4), (32, iv (xs2.length : Int)), (33, iv (x0 + 1))], (fl6), a8, cap9, (xs0 ++ ([x4.2] : List Int)), (x0 + 1), x4.1.Peers, S1, a6, cap7, x4.1.Net, a7, cap8, x4.1.Chosen, x4.1.Conflict, F3, rfl, hS11, (hE3.up (by omega)), ho18, fo4, ho20, fo5, hO2, (h11.mono hX1.sub), h37, hl2, h38, h39, (Ap.new0 hid0 (by have := lt4; omega) ap6), (Ap.new0 hid0 (by have := lt5; omega) ap7), ap26, ap20, (Ap.sym (Ap.new hid0 (OD.hb h33) (Ap.sym ap27))), ap28, ap21, (Ap.sym (Ap.new hid0 (OW.hb h34) (Ap.sym ap29))), ap23, ap30, ap22, (Ap.sym (Ap.new hid0 (OW.hb h35) (Ap.sym ap31))), ap24, ap25, hr⟩
 }
 {
 replace hr := ite_neg hr hc0
 refine W.exit (eX (eX (eH (eT (wS (wR (mN rfl ?_)))))))
 obtain ⟨x5, hx2, hr⟩ := bnd_some hr
 refine GL.callP g.good .nil rfl rfl rfl rfl rfl rfl Try.func33 rfl rfl hS4.lo (f_impl_Cluster_told_k (x1 := (⟨xs1, xs3, xs4, x2⟩ : GCluster)) g hS4 (by rw [← hl0]; exact ho4) fo2 (OD.head hl0 h12) h13 h14 ap9 ap12 ap14 ap16 ap18 ap19 hx2) (fun v n4 H10 hn2 hk6 hp1 => ?_)
 obtain ⟨F4, a9, cap10, a10, cap11, a11, cap12, hX2, hS12, rfl, h40, h41, h42⟩ := hp1
 have ho21 := oA hk6 ho3 lt1
 have h43 := kA (n' := n4) h10 hk6
 have hS13 : St n0 n4 H10 F4 := ⟨by have := hS4.lo; omega, hS12.hb, hS12.fh⟩
 have fo6 := fA hX2 lt1 fo1
 have h44 := OW.keepF h43 hX2.sub (fun i hi => (hX2.eq i (by have := OW.id_lt h10 hi; omega)).trans (OW.fnone h43 hi))
 have hE4 := (hE2.up (n' := n1) (by omega)).trans hX2
 have hlon7 := hS13.lo
 refine mN rfl ?_
 refine GL.store hS13 .nil (vc := [.slice a9 x5.Peers.length cap10, .slice a10 x5.Net.length cap11, .slice a11 x5.Chosen.length cap12, .bool x5.Conflict]) (c' := [.slice a9 x5.Peers.length cap10, .slice a10 x5.Net.length cap11, .slice a11 x5.Chosen.length cap12, .bool x5.Conflict]) rfl rfl rfl info30 rfl rfl rfl rfl ho21 fo6 (bl rfl) (by omega) bxP rfl (fun H11 hS14 ho22 hk7 => ?_)
 have h45 := kB h44 hk7 ap6
 refine aN rfl (aN rfl (wN (eT (W.ret ?_))))
 obtain rfl := Option.some.inj hr
 exact ⟨.inr rfl, _, (.cons (.cellN (l := [.slice a9 x5.Peers.length cap10, .slice a10 x5.Net.length cap11, .slice a11 x5.Chosen.length cap12, .bool x5.Conflict]) rfl U30 rfl info30 ho22 rfl rfl) (.cons (.tmp rfl) (.cons (.tmp rfl) .nil))), ⟨F4, a9, cap10, a10, cap11, a11, cap12, a1, cap2, (hE4.up (by omega)), hS14, rfl, h40, h41, h42, h45⟩⟩
 }
 }
 }
theorem f_laws_sameRecs_k {Δ : Prims} (g : Env Try.prog Δ) {lo n0 : Nat} {H0 F0 : Heap} (hS : St lo n0 H0 F0) {a2 : Option Addr} {cap3 : Nat} {xs1 : (List GRec)} {a6 : Option Addr} {cap7 : Nat} {xs5 : (List GRec)} (h4 : SR F0 (.slice a2 xs1.length cap3) xs1) (h8 : SR F0 (.slice a6 xs5.length cap7) xs5) {res : (Bool)} (hr : f_laws_sameRecs xs1 xs5 = some res) :
    C Try.prog Δ n0 12 [.slice a2 xs1.length cap3, .slice a6 xs5.length cap7] n0 H0 (fun v n H => St n0 n H F0 ∧ v = .bool res) := by
 refine C.body Try.func12 rfl rfl ?_
 unfold f_laws_sameRecs at hr
 have hS0 : St n0 n0 H0 F0 := hS.low (Nat.le_refl _)
 have hE0 := Ext.refl n0 F0
 have hlo0 := hS0.lo
 refine wS (wR (aN rfl (wN (eT (wS (wS (wR (mN rfl (WL.len .nil rfl rfl rfl U28 rfl (mN rfl (WL.len .nil rfl rfl rfl U28 rfl ?_)))))))))))
 refine bN rfl rfl (wN (eT ?_))
 refine W.condN rfl (fun hc10 => ?_) (fun hc10 => ?_)
 {
 replace hr := ite_neg hr hc10
 refine wS (wR (aN rfl (wN (eT (W.ret (eR ?_))))))
 obtain rfl := Option.some.inj hr
 exact ⟨.inr rfl, _, (.cons (.tmp rfl) .nil), ⟨(Ext.st hE0 hS0), rfl⟩⟩
 }
 {
 replace hr := ite_pos hr hc10
 refine wK (eT (wS (wS (wR (aN rfl (wN (eT (W.block ?_))))))))
 refine W.loopF (fun k0 fr n H => ∃ (x0 : Int) (F : Heap), fr = [(0, .slice a2 xs1.length cap3), (1, .slice a6 xs5.length cap7), (5, iv x0)] ∧ St n0 n H F ∧ Ext n0 F0 n F ∧ SR F (.slice a2 xs1.length cap3) xs1 ∧ SR F (.slice a6 xs5.length cap7) xs5 ∧ f_laws_sameRecs_L0 xs1 xs5 k0 x0 = some res) BIG (fr0 := [(0, .slice a2 xs1.length cap3), (1, .slice a6 xs5.length cap7), (5, iv 0)]) (fl3) ?_ ?_ ?_
 {
 exact ⟨0, F0, rfl, hS0, hE0, h4, h8, hr⟩
 }
 {
 intro fr n H hI
 obtain ⟨x0, F1, hfr, hS1, hE1, h0, h1, hr⟩ := hI
 rw [f_laws_sameRecs_L0] at hr
 cases hr
 }
 {
 intro k0 _ n1 H1 hI
 obtain ⟨x0, F1, rfl, hS1, hE1, h0, h1, hr⟩ := hI
 have hlen0 := hE1.le
 have hlon0 := hS1.lo
 rw [f_laws_sameRecs_L0] at hr
 refine wS (wS (wR (mN rfl (mN rfl (WL.len .nil rfl rfl rfl U28 rfl (bN rfl rfl (wN (eT ?_))))))))
 refine W.condD rfl (fun hc0 => ?_) (fun hc0 => ?_)
 {
 replace hr := ite_pos hr hc0
 refine wK (eT (wS (W.block (wS ?_))))
 refine W.cut (fun fr n H => ∃ (x1 : Bool) (F : Heap), fr = [(0, .slice a2 xs1.length cap3), (1, .slice a6 xs5.length cap7), (5, iv x0), (55, .bool x1)] ∧ St n0 n H F ∧ Ext n0 F0 n F ∧ SR F (.slice a2 xs1.length cap3) xs1 ∧ SR F (.slice a6 xs5.length cap7) xs5 ∧ f_laws_sameRecs_J1 x0 (f_laws_sameRecs_L0 xs1 xs5 k0) x1 = some res) ?_ ?_
 {
 refine W.regionD [0, 1, 2, 3, 4, 5, 6, 7, 8, 9, 10, 11, 12, 13, 14, 15, 16, 17, 18, 19, 20, 21, 22, 23, 24, 25, 26, 27, 28, 29, 30, 31, 32, 33, 34, 35, 36, 37, 38] [false, false, false, false, false, false, false, false, false, false, false, false, false, false, false, false, false, false, false, false, false, false, false, false, false, false, false, false, false, false, false, false, false, false, false, false, false, false, false] rfl rfl kr kr mP ?_
 refine mR rfl (mR rfl ?_)
 obtain ⟨x2, hx0, hr⟩ := bnd_some hr
 refine GL.index .r rfl rfl rfl U28 info35 rfl rfl h0 hS1.fh rfl hx0 (fun b0 kp0 c0 ecs0 hrow0 hwin0 hR0 => ?_)
 obtain ⟨a0, cap0, rfl, h2⟩ := GRec.ofR hR0
 refine fR rfl U35 rfl info3 rfl (lR rfl U3 rfl hrow0 ((win_get0 hwin0 (show (0 : Nat) < 3 by decide)).trans rfl) (mR rfl (mR rfl ?_)))
 obtain ⟨x3, hx1, hr⟩ := bnd_some hr
 refine GL.index .r rfl rfl rfl U28 info35 rfl rfl h1 hS1.fh rfl hx1 (fun b1 kp1 c1 ecs1 hrow1 hwin1 hR1 => ?_)
 obtain ⟨a1, cap1, rfl, h3⟩ := GRec.ofR hR1
 refine fR rfl U35 rfl info3 rfl (lR rfl U3 rfl hrow1 ((win_get0 hwin1 (show (0 : Nat) < 3 by decide)).trans rfl) (bR rfl rfl (mR rfl ?_)))
 refine WL.guardN rfl rfl rfl (fun hg0 => ?_) (fun hg0 => ?_)
 {
 replace hr := ite_neg hr hg0
 refine kR rfl (kR rfl (kR rfl (kR rfl (kR rfl (kR rfl (kR rfl (kR rfl (kR rfl (kR rfl (kR rfl (WL.pick .r rfl rfl rfl rfl rfl ?_)))))))))))
 refine mR rfl (kR rfl (kR rfl (kR rfl (kR rfl (kR rfl (kR rfl (kR rfl (kR rfl (kR rfl (kR rfl (kR rfl ?_)))))))))))
 refine kR rfl (kR rfl (WL.pick .r rfl rfl rfl rfl rfl (wN (eT ?_))))
 exact ⟨[(0, .slice a2 xs1.length cap3), (1, .slice a6 xs5.length cap7), (5, iv x0), (55, .bool true)], (fl4), true, F1, rfl, hS1, hE1, h0, h1, hr⟩
 }
 {
 replace hr := ite_pos hr hg0
 refine mR rfl (mR rfl ?_)
 obtain ⟨x4, hx2, hr⟩ := bnd_some hr
 refine GL.index .r rfl rfl rfl U28 info35 rfl rfl h0 hS1.fh rfl hx2 (fun b2 kp2 c2 ecs2 hrow2 hwin2 hR2 => ?_)
 obtain ⟨a3, cap2, rfl, h5⟩ := GRec.ofR hR2
 refine fR rfl U35 rfl info3 rfl (lR rfl U3 rfl hrow2 (wG 1 hwin2) (mR rfl (mR rfl ?_)))
 obtain ⟨x5, hx3, hr⟩ := bnd_some hr
 refine GL.index .r rfl rfl rfl U28 info35 rfl rfl h1 hS1.fh rfl hx3 (fun b3 kp3 c3 ecs3 hrow3 hwin3 hR3 => ?_)
 obtain ⟨a4, cap4, rfl, h6⟩ := GRec.ofR hR3
 refine fR rfl U35 rfl info3 rfl (lR rfl U3 rfl hrow3 (wG 1 hwin3) (bR rfl rfl (WL.pick .r rfl rfl rfl rfl rfl (mR rfl ?_))))
 refine WL.guardN rfl rfl rfl (fun hg1 => ?_) (fun hg1 => ?_)
 {
 replace hr := ite_neg hr hg1
 refine kR rfl (kR rfl (kR rfl (kR rfl (kR rfl (kR rfl (kR rfl (kR rfl (kR rfl (kR rfl (kR rfl (kR rfl ?_)))))))))))
 refine kR rfl (WL.pick .r rfl rfl rfl rfl rfl (wN (eT ?_)))
 exact ⟨[(0, .slice a2 xs1.length cap3), (1, .slice a6 xs5.length cap7), (5, iv x0), (55, .bool true)], (fl4), true, F1, rfl, hS1, hE1, h0, h1, hr⟩
 }
 {
 replace hr := ite_pos hr hg1
 refine mR rfl (mR rfl ?_)
 obtain ⟨x6, hx4, hr⟩ := bnd_some hr
 refine GL.index .r rfl rfl rfl U28 info35 rfl rfl h0 hS1.fh rfl hx4 (fun b4 kp4 c4 ecs4 hrow4 hwin4 hR4 => ?_)
 obtain ⟨a5, cap5, rfl, h7⟩ := GRec.ofR hR4
 refine fR rfl U35 rfl info22 rfl (lR rfl U22 rfl hrow4 (wG 2 hwin4) ?_)
 refine GL.toStr .r rfl rfl rfl U22 U9 U5 rfl h7 hS1.fh ?_
 refine mR rfl (mR rfl ?_)
 obtain ⟨x7, hx5, hr⟩ := bnd_some hr
 refine GL.index .r rfl rfl rfl U28 info35 rfl rfl h1 hS1.fh rfl hx5 (fun b5 kp5 c5 ecs5 hrow5 hwin5 hR5 => ?_)
 obtain ⟨a7, cap6, rfl, h9⟩ := GRec.ofR hR5
 refine fR rfl U35 rfl info22 rfl (lR rfl U22 rfl hrow5 (wG 2 hwin5) ?_)
 refine GL.toStr .r rfl rfl rfl U22 U9 U5 rfl h9 hS1.fh ?_
 refine GL.strCmp .r rfl rfl rfl rfl rfl (by decide) rfl ?_
 refine WL.pick .r rfl rfl rfl rfl rfl (wN (eT ?_))
 exact ⟨[(0, .slice a2 xs1.length cap3), (1, .slice a6 xs5.length cap7), (5, iv x0), (55, .bool (!decide (lst x6.Data = lst x7.Data)))], (fl4), (!decide (lst x6.Data = lst x7.Data)), F1, rfl, hS1, hE1, h0, h1, hr⟩
 }
 }
 }
 {
 intro _ n2 H2 hI
 obtain ⟨x1, F2, rfl, hS2, hE2, h10, h11, hr⟩ := hI
 have hlen1 := hE2.le
 have hlon1 := hS2.lo
 unfold f_laws_sameRecs_J1 at hr
 refine W.cond rfl (fun hc1 => ?_) (fun hc1 => ?_)
 {
 replace hr := iteB_pos hr hc1
 refine wS (wR (aN rfl (wN (eT (W.ret (Ex.blk_ret (eR (eR (Ex.blk_ret (eR ?_))))))))))
 obtain rfl := Option.some.inj hr
 exact ⟨.inr rfl, _, (.cons (.tmp rfl) .nil), ⟨(Ext.st hE2 hS2), rfl⟩⟩
 }
 {
 replace hr := iteB_neg hr hc1
 refine wK (eB (eT (wR (mN rfl ?_))))
 obtain ⟨hc2, hr⟩ := chk_some hr
 refine WL.addI .nil rfl rfl rfl rfl rfl hc2.1 hc2.2 (aN rfl (wN (eT ?_)))
 exact ⟨[(0, .slice a2 xs1.length cap3), (1, .slice a6 xs5.length cap7), (5, iv (x0 + 1))], (fl3), (x0 + 1), F2, rfl, hS2, hE2, h10, h11, hr⟩
 }
 }
 }
 {
 replace hr := ite_neg hr hc0
 refine W.exit (eX (eX (eH (eT (wS (wR (aN rfl (wN (eT (W.ret ?_))))))))))
 obtain rfl := Option.some.inj hr
 exact ⟨.inr rfl, _, (.cons (.tmp rfl) .nil), ⟨(Ext.st hE1 hS1), rfl⟩⟩
 }
 }
 }
theorem f_laws_FnLogs_k {Δ : Prims} (g : Env Try.prog Δ) {lo n0 : Nat} {H0 F0 : Heap} (hS : St lo n0 H0 F0) {a2 : Option Addr} {cap3 : Nat} {xs1 : (List UInt8)} {a6 : Option Addr} {cap7 : Nat} {xs5 : (List UInt8)} (h4 : SR F0 (.slice a2 xs1.length cap3) xs1) (h8 : SR F0 (.slice a6 xs5.length cap7) xs5) {res : (Bool)} (hr : f_laws_FnLogs xs1 xs5 = some res) :
    C Try.prog Δ n0 4 [.slice a2 xs1.length cap3, .slice a6 xs5.length cap7] n0 H0 (fun v n H => St n0 n H F0 ∧ v = .bool res) := by
 refine C.body Try.func4 rfl rfl ?_
 unfold f_laws_FnLogs at hr
 have hS0 : St n0 n0 H0 F0 := hS.low (Nat.le_refl _)
 have hE0 := Ext.refl n0 F0
 have hlo0 := hS0.lo
 refine wS (wR (aN rfl (wN (eT (wS (wS ?_))))))
 refine W.cut (fun fr n H => ∃ (x17 : Bool) (F : Heap), fr = [(0, .slice a2 xs1.length cap3), (1, .slice a6 xs5.length cap7), (22, .bool x17)] ∧ St n0 n H F ∧ Ext n0 F0 n F ∧ SR F (.slice a2 xs1.length cap3) xs1 ∧ SR F (.slice a6 xs5.length cap7) xs5 ∧ f_laws_FnLogs_J0 xs5 xs1 x17 = some res) ?_ ?_
 {
 refine wR (mN rfl (WL.len .nil rfl rfl rfl U22 rfl (bN rfl rfl (mN rfl ?_))))
 refine WL.guardD rfl rfl rfl (fun hg0 => ?_) (fun hg0 => ?_)
 {
 replace hr := ite_pos hr hg0
 refine kN rfl (kN rfl (kN rfl (WL.pick .nil rfl rfl rfl rfl rfl (wN (eT ?_)))))
 exact ⟨[(0, .slice a2 xs1.length cap3), (1, .slice a6 xs5.length cap7), (22, .bool true)], (fl3), true, F0, rfl, hS0, hE0, h4, h8, hr⟩
 }
 {
 replace hr := ite_neg hr hg0
 refine mN rfl (WL.len .nil rfl rfl rfl U22 rfl (bN rfl rfl (WL.pick .nil rfl rfl rfl rfl rfl (wN (eT ?_)))))
 exact ⟨[(0, .slice a2 xs1.length cap3), (1, .slice a6 xs5.length cap7), (22, .bool (decide ((1048576 : Int) < (xs5.length : Int))))], (fl3), (decide ((1048576 : Int) < (xs5.length : Int))), F0, rfl, hS0, hE0, h4, h8, hr⟩
 }
 }
 {
 intro _ n10 H11 hI
 obtain ⟨x17, F12, rfl, hS13, hE14, h15, h16, hr⟩ := hI
 have hlen10 := hE14.le
 have hlon10 := hS13.lo
 unfold f_laws_FnLogs_J0 at hr
 refine W.cond rfl (fun hc19 => ?_) (fun hc19 => ?_)
 {
 replace hr := iteB_pos hr hc19
 refine wS (wR (aN rfl (wN (eT (W.ret (eR ?_))))))
 obtain rfl := Option.some.inj hr
 exact ⟨.inr rfl, _, (.cons (.tmp rfl) .nil), ⟨(Ext.st hE14 hS13), rfl⟩⟩
 }
 {
 replace hr := iteB_neg hr hc19
 refine wK (eT (wS (wR (mN rfl ?_))))
 obtain ⟨x20, hx20, hr⟩ := bnd_some hr
 refine GL.callP g.good .nil rfl rfl rfl rfl rfl rfl Try.func10 rfl rfl hS13.lo (f_laws_peers_k  g hS13 h16 hx20) (fun v n21 H22 hn23 hk24 hp25 => ?_)
 obtain ⟨hS26, rfl⟩ := hp25
 have hS27 : St n0 n21 H22 F12 := ⟨by have := hS13.lo; omega, hS26.hb, hS26.fh⟩
 have hlon21 := hS27.lo
 refine aN rfl (wN (eT (wS (wR (mN rfl (mN rfl ?_))))))
 obtain ⟨x28, hx28, hr⟩ := bnd_some hr
 refine GL.callP g.good .nil rfl rfl rfl rfl rfl rfl Try.func11 rfl rfl hS27.lo (f_spec_EventsOf_k  g hS27 h15 hx28) (fun v n29 H30 hn31 hk32 hp33 => ?_)
 obtain ⟨F38, a34, cap35, hX39, hS37, rfl, h36⟩ := hp33
 have hS40 : St n0 n29 H30 F38 := ⟨by have := hS27.lo; omega, hS37.hb, hS37.fh⟩
 have hE41 := (hE14.up (n' := n21) (by omega)).trans hX39
 have hlon29 := hS40.lo
 have h42 := OW.lower (lo' := n0) h36 (by omega)
 refine aN rfl (wN (eT (wS (wR (mN rfl (mN rfl ?_))))))
 obtain ⟨F44, hS45, hle46, h47, hf48⟩ := OW.freeze h42 hS40
 have hE49 : Ext n0 F0 n29 F44 := ⟨Nat.le_trans hE41.le (by omega), hE41.sub.trans hle46, fun i hi => (hf48 i (fun hj => by have := OW.id_lt h42 hj; omega)).trans (hE41.eq i hi)⟩
 obtain ⟨x50, hx50, hr⟩ := bnd_some hr
 refine GL.callP g.good .nil rfl rfl rfl rfl rfl rfl Try.func8 rfl rfl hS45.lo (f_impl_ClusterRun_k  g hS45 h47 hx50) (fun v n51 H52 hn53 hk54 hp55 => ?_)
 obtain ⟨F69, a56, cap57, a59, cap60, a62, cap63, a65, cap66, hX70, hS68, rfl, h58, h61, h64, h67⟩ := hp55
 have hS71 : St n0 n51 H52 F69 := ⟨by have := hS45.lo; omega, hS68.hb, hS68.fh⟩
 have hE72 := (hE49.up (n' := n29) (by omega)).trans hX70
 have hlon51 := hS71.lo
 refine mN rfl (WL.extract .nil rfl rfl rfl rfl rfl (WL.extract .nil rfl rfl rfl rfl rfl (WL.extract .nil rfl rfl rfl rfl rfl ?_)))
 refine GL.alloc hS71 .nil (zc := [.slice none 0 0, .slice none 0 0, .slice none 0 0, .bool false]) rfl rfl rfl info30 rfl rfl rfl (fun H75 hS76 ho77 hk78 => ?_)
 have fo79 := hS71.fnone (Nat.le_refl _)
 have hlon0 := hS76.lo
 have lt80 : n51 < (n51 + 1) := by omega
 refine GL.store hS76 .nil (vc := [.slice a56 x50.1.Peers.length cap57, .slice a59 x50.1.Net.length cap60, .slice a62 x50.1.Chosen.length cap63, .bool x50.1.Conflict]) (c' := [.slice a56 x50.1.Peers.length cap57, .slice a59 x50.1.Net.length cap60, .slice a62 x50.1.Chosen.length cap63, .bool x50.1.Conflict]) rfl rfl rfl info30 rfl rfl rfl rfl ho77 fo79 (bl rfl) (by omega) bxP rfl (fun H82 hS83 ho84 hk85 => ?_)
 refine aN rfl (aN rfl (wN (eT (wS (wS ?_)))))
 refine W.cut (fun fr n H => ∃ (x93 : Bool) (F : Heap), fr = [(5, iv x20), (7, pt n51 0), (43, .bool x93)] ∧ St n0 n H F ∧ Ext n0 F0 n F ∧ H n51 = some (.row 1 [.slice a56 x50.1.Peers.length cap57, .slice a59 x50.1.Net.length cap60, .slice a62 x50.1.Chosen.length cap63, .bool x50.1.Conflict]) ∧ F n51 = none ∧ SR F (.slice a56 x50.1.Peers.length cap57) x50.1.Peers ∧ SR F (.slice a59 x50.1.Net.length cap60) x50.1.Net ∧ SR F (.slice a62 x50.1.Chosen.length cap63) x50.1.Chosen ∧ f_laws_FnLogs_J1 x20 x50 x93 = some res) ?_ ?_
 {
 refine wR (mN rfl (bN rfl rfl (mN rfl ?_)))
 refine WL.guardN rfl rfl rfl (fun hg1 => ?_) (fun hg1 => ?_)
 {
 replace hr := ite_neg hr hg1
 refine kN rfl (kN rfl (kN rfl (kN rfl (kN rfl (WL.pick .nil rfl rfl rfl rfl rfl (wN (eT ?_)))))))
 exact ⟨[(5, iv x20), (7, pt n51 0), (43, .bool true)], (fl3), true, F69, rfl, hS83, (hE72.up (by omega)), ho84, fo79, h58, h61, h64, hr⟩
 }
 {
 replace hr := ite_pos hr hg1
 refine fN rfl U30 rfl info26 rfl (lN rfl U26 rfl ho84 rfl (WL.len .nil rfl rfl rfl U26 rfl (mN rfl (bN rfl rfl (WL.pick .nil rfl rfl rfl rfl rfl (wN (eT ?_)))))))
 exact ⟨[(5, iv x20), (7, pt n51 0), (43, .bool (!decide ((x50.1.Peers.length : Int) = x20)))], (fl3), (!decide ((x50.1.Peers.length : Int) = x20)), F69, rfl, hS83, (hE72.up (by omega)), ho84, fo79, h58, h61, h64, hr⟩
 }
 }
 {
 intro _ n88 H89 hI
 obtain ⟨x93, F90, rfl, hS91, hE92, ho97, fo98, h94, h95, h96, hr⟩ := hI
 have lt99 := hS91.lt ho97
 have hlen88 := hE92.le
 have hlon88 := hS91.lo
 unfold f_laws_FnLogs_J1 at hr
 refine W.cond rfl (fun hc0 => ?_) (fun hc0 => ?_)
 {
 replace hr := iteB_pos hr hc0
 refine wS (wR (aN rfl (wN (eT (W.ret (eR ?_))))))
 obtain rfl := Option.some.inj hr
 exact ⟨.inr rfl, _, (.cons (.tmp rfl) .nil), ⟨(Ext.st hE92 hS91), rfl⟩⟩
 }
 {
 replace hr := iteB_neg hr hc0
 refine wK (eT (wS (wS (wR (aN rfl (wN (eT (W.block ?_))))))))
 refine W.loopF (fun k2 fr n H => ∃ (x0 : Int) (F : Heap), fr = [(5, iv x20), (7, pt n51 0), (10, iv x0)] ∧ St n0 n H F ∧ Ext n0 F0 n F ∧ H n51 = some (.row 1 [.slice a56 x50.1.Peers.length cap57, .slice a59 x50.1.Net.length cap60, .slice a62 x50.1.Chosen.length cap63, .bool x50.1.Conflict]) ∧ F n51 = none ∧ SR F (.slice a56 x50.1.Peers.length cap57) x50.1.Peers ∧ SR F (.slice a59 x50.1.Net.length cap60) x50.1.Net ∧ SR F (.slice a62 x50.1.Chosen.length cap63) x50.1.Chosen ∧ f_laws_FnLogs_L2 x20 x50 k2 x0 = some res) BIG (fr0 := [(5, iv x20), (7, pt n51 0), (10, iv 0)]) (fl3) ?_ ?_ ?_
 {
 exact ⟨0, F90, rfl, hS91, hE92, ho97, fo98, h94, h95, h96, hr⟩
 }
 {
 intro fr n H hI
 obtain ⟨x0, F1, hfr, hS1, hE1, ho0, fo0, h0, h1, h2, hr⟩ := hI
 rw [f_laws_FnLogs_L2] at hr
 cases hr
 }
 {
 intro k2 _ n1 H1 hI
 obtain ⟨x0, F1, rfl, hS1, hE1, ho0, fo0, h0, h1, h2, hr⟩ := hI
 have lt0 := hS1.lt ho0
 have hlen0 := hE1.le
 have hlon1 := hS1.lo
 rw [f_laws_FnLogs_L2] at hr
 refine wS (wS (wR (mN rfl (mN rfl (bN rfl rfl (wN (eT ?_)))))))
 refine W.condD rfl (fun hc1 => ?_) (fun hc1 => ?_)
 {
 replace hr := ite_pos hr hc1
 refine wK (eT (wS (W.block (wS (wR (aN rfl (wN (eT (W.block ?_)))))))))
 refine W.loopF (fun k3 fr n H => ∃ (x1 : Int) (F : Heap), fr = [(5, iv x20), (7, pt n51 0), (10, iv x0), (11, iv x1)] ∧ St n0 n H F ∧ Ext n0 F0 n F ∧ H n51 = some (.row 1 [.slice a56 x50.1.Peers.length cap57, .slice a59 x50.1.Net.length cap60, .slice a62 x50.1.Chosen.length cap63, .bool x50.1.Conflict]) ∧ F n51 = none ∧ SR F (.slice a56 x50.1.Peers.length cap57) x50.1.Peers ∧ SR F (.slice a59 x50.1.Net.length cap60) x50.1.Net ∧ SR F (.slice a62 x50.1.Chosen.length cap63) x50.1.Chosen ∧ f_laws_FnLogs_L3 x0 x50 (f_laws_FnLogs_L2 x20 x50 k2) k3 x1 = some res) BIG (fr0 := [(5, iv x20), (7, pt n51 0), (10, iv x0), (11, iv 0)]) (fl4) ?_ ?_ ?_
 {
 exact ⟨0, F1, rfl, hS1, hE1, ho0, fo0, h0, h1, h2, hr⟩
 }
 {
 intro fr n H hI
 obtain ⟨x1, F2, hfr, hS2, hE2, ho1, fo1, h3, h5, h6, hr⟩ := hI
 rw [f_laws_FnLogs_L3] at hr
 cases hr
 }
 {
 intro k3 _ n2 H2 hI
 obtain ⟨x1, F2, rfl, hS2, hE2, ho1, fo1, h3, h5, h6, hr⟩ := hI
 have lt1 := hS2.lt ho1
 have hlen1 := hE2.le
 have hlon2 := hS2.lo
 rw [f_laws_FnLogs_L3] at hr
 refine wS (wS (wR (mN rfl (mN rfl (bN rfl rfl (wN (eT ?_)))))))
 refine W.condD rfl (fun hc2 => ?_) (fun hc2 => ?_)
 {
 replace hr := ite_pos hr hc2
 refine wK (eT (wS ?_))
 refine W.cut (fun fr n H => ∃ (F : Heap), fr = [(5, iv x20), (7, pt n51 0), (10, iv x0), (11, iv x1)] ∧ St n0 n H F ∧ Ext n0 F0 n F ∧ H n51 = some (.row 1 [.slice a56 x50.1.Peers.length cap57, .slice a59 x50.1.Net.length cap60, .slice a62 x50.1.Chosen.length cap63, .bool x50.1.Conflict]) ∧ F n51 = none ∧ SR F (.slice a56 x50.1.Peers.length cap57) x50.1.Peers ∧ SR F (.slice a59 x50.1.Net.length cap60) x50.1.Net ∧ SR F (.slice a62 x50.1.Chosen.length cap63) x50.1.Chosen ∧ f_laws_FnLogs_J4 x1 (f_laws_FnLogs_L3 x0 x50 (f_laws_FnLogs_L2 x20 x50 k2) k3) = some res) ?_ ?_
 {
 refine W.block (wS (wR (fN rfl U30 rfl info26 rfl (lN rfl U26 rfl ho1 rfl (mN rfl ?_)))))
 obtain ⟨x2, hx0, hr⟩ := bnd_some hr
 refine GL.index .nil rfl rfl rfl U26 info42 rfl rfl h3 hS2.fh rfl hx0 (fun b0 kp0 c0 ecs0 hrow0 hwin0 hR0 => ?_)
 obtain ⟨a0, cap0, a1, cap1, a3, cap2, a4, cap4, rfl, h7, h9, h10, h11⟩ := GPeer.ofR hR0
 refine WL.loadN .nil (l' := [.bool x2.Up, iv x2.Term, iv x2.Vote, iv x2.Commit, iv x2.Role, .slice a0 x2.Log.length cap0, .slice a1 x2.Votes.length cap1, .slice a3 x2.Next.length cap2, .slice a4 x2.Match.length cap4]) rfl rfl rfl U42 rfl info42 rfl hrow0 hwin0 rfl ?_
 refine GL.alloc hS2 .nil (zc := [.bool false, iv 0, iv 0, iv 0, iv 0, .slice none 0 0, .slice none 0 0, .slice none 0 0, .slice none 0 0]) rfl rfl rfl info42 rfl rfl rfl (fun H3 hS3 ho2 hk0 => ?_)
 have fo2 := hS2.fnone (Nat.le_refl _)
 have ho3 := oA hk0 ho1 lt1
 have hlon3 := hS3.lo
 have lt2 : n2 < (n2 + 1) := by omega
 refine GL.store hS3 .nil (vc := [.bool x2.Up, iv x2.Term, iv x2.Vote, iv x2.Commit, iv x2.Role, .slice a0 x2.Log.length cap0, .slice a1 x2.Votes.length cap1, .slice a3 x2.Next.length cap2, .slice a4 x2.Match.length cap4]) (c' := [.bool x2.Up, iv x2.Term, iv x2.Vote, iv x2.Commit, iv x2.Role, .slice a0 x2.Log.length cap0, .slice a1 x2.Votes.length cap1, .slice a3 x2.Next.length cap2, .slice a4 x2.Match.length cap4]) rfl rfl rfl info42 rfl rfl rfl rfl ho2 fo2 (bl rfl) (by omega) bxP rfl (fun H4 hS4 ho4 hk1 => ?_)
 have ho5 := (hk1 _ (by omega)).trans ho3
 refine wN (eT (wS (wR (fN rfl U30 rfl info26 rfl (lN rfl U26 rfl ho5 rfl (mN rfl ?_))))))
 obtain ⟨x3, hx1, hr⟩ := bnd_some hr
 refine GL.index .nil rfl rfl rfl U26 info42 rfl rfl h3 hS4.fh rfl hx1 (fun b1 kp1 c1 ecs1 hrow1 hwin1 hR1 => ?_)
 obtain ⟨a5, cap5, a7, cap6, a8, cap8, a9, cap9, rfl, h12, h13, h14, h17⟩ := GPeer.ofR hR1
 refine WL.loadN .nil (l' := [.bool x3.Up, iv x3.Term, iv x3.Vote, iv x3.Commit, iv x3.Role, .slice a5 x3.Log.length cap5, .slice a7 x3.Votes.length cap6, .slice a8 x3.Next.length cap8, .slice a9 x3.Match.length cap9]) rfl rfl rfl U42 rfl info42 rfl hrow1 hwin1 rfl ?_
 refine GL.alloc hS4 .nil (zc := [.bool false, iv 0, iv 0, iv 0, iv 0, .slice none 0 0, .slice none 0 0, .slice none 0 0, .slice none 0 0]) rfl rfl rfl info42 rfl rfl rfl (fun H5 hS5 ho6 hk2 => ?_)
 have fo3 := hS4.fnone (Nat.le_refl _)
 have ho7 := oA hk2 ho5 lt1
 have ho8 := oA hk2 ho4 lt2
 have hlon4 := hS5.lo
 have lt3 : (n2 + 1) < ((n2 + 1) + 1) := by omega
 refine GL.store hS5 .nil (vc := [.bool x3.Up, iv x3.Term, iv x3.Vote, iv x3.Commit, iv x3.Role, .slice a5 x3.Log.length cap5, .slice a7 x3.Votes.length cap6, .slice a8 x3.Next.length cap8, .slice a9 x3.Match.length cap9]) (c' := [.bool x3.Up, iv x3.Term, iv x3.Vote, iv x3.Commit, iv x3.Role, .slice a5 x3.Log.length cap5, .slice a7 x3.Votes.length cap6, .slice a8 x3.Next.length cap8, .slice a9 x3.Match.length cap9]) rfl rfl rfl info42 rfl rfl rfl rfl ho6 fo3 (bl rfl) (by omega) bxP rfl (fun H6 hS6 ho9 hk3 => ?_)
 have ho10 := (hk3 _ (by omega)).trans ho7
 have ho11 := (hk3 _ (by omega)).trans ho8
 refine wN (eT (wS (wS ?_)))
 refine W.cut (fun fr n H => ∃ (x4 : Bool) (F : Heap), fr = [(5, iv x20), (7, pt n51 0), (10, iv x0), (11, iv x1), (12, pt n2 0), (13, pt (n2 + 1) 0), (78, .bool x4)] ∧ St n0 n H F ∧ Ext n0 F0 n F ∧ H (n2 + 1) = some (.row 1 [.bool x3.Up, iv x3.Term, iv x3.Vote, iv x3.Commit, iv x3.Role, .slice a5 x3.Log.length cap5, .slice a7 x3.Votes.length cap6, .slice a8 x3.Next.length cap8, .slice a9 x3.Match.length cap9]) ∧ F (n2 + 1) = none ∧ H n2 = some (.row 1 [.bool x2.Up, iv x2.Term, iv x2.Vote, iv x2.Commit, iv x2.Role, .slice a0 x2.Log.length cap0, .slice a1 x2.Votes.length cap1, .slice a3 x2.Next.length cap2, .slice a4 x2.Match.length cap4]) ∧ F n2 = none ∧ H n51 = some (.row 1 [.slice a56 x50.1.Peers.length cap57, .slice a59 x50.1.Net.length cap60, .slice a62 x50.1.Chosen.length cap63, .bool x50.1.Conflict]) ∧ F n51 = none ∧ SR F (.slice a5 x3.Log.length cap5) x3.Log ∧ SR F (.slice a7 x3.Votes.length cap6) x3.Votes ∧ SR F (.slice a8 x3.Next.length cap8) x3.Next ∧ SR F (.slice a9 x3.Match.length cap9) x3.Match ∧ SR F (.slice a0 x2.Log.length cap0) x2.Log ∧ SR F (.slice a1 x2.Votes.length cap1) x2.Votes ∧ SR F (.slice a3 x2.Next.length cap2) x2.Next ∧ SR F (.slice a4 x2.Match.length cap4) x2.Match ∧ SR F (.slice a56 x50.1.Peers.length cap57) x50.1.Peers ∧ SR F (.slice a59 x50.1.Net.length cap60) x50.1.Net ∧ SR F (.slice a62 x50.1.Chosen.length cap63) x50.1.Chosen ∧ f_laws_FnLogs_J5 x2 x3 x1 (f_laws_FnLogs_L3 x0 x50 (f_laws_FnLogs_L2 x20 x50 k2) k3) x4 = some res) ?_ ?_
 {
 refine wR (fN rfl U42 rfl info3 rfl (lN rfl U3 rfl ho11 rfl (bN rfl rfl (mN rfl ?_))))
 refine WL.guardD rfl rfl rfl (fun hg2 => ?_) (fun hg2 => ?_)
 {
 replace hr := ite_pos hr hg2
 refine fN rfl U42 rfl info3 rfl (lN rfl U3 rfl ho9 rfl (bN rfl rfl (WL.pick .nil rfl rfl rfl rfl rfl (mN rfl ?_))))
 refine WL.guardD rfl rfl rfl (fun hg3 => ?_) (fun hg3 => ?_)
 {
 replace hr := ite_pos hr hg3
 refine fN rfl U42 rfl info3 rfl (lN rfl U3 rfl ho11 rfl (fN rfl U42 rfl info3 rfl (lN rfl U3 rfl ho9 rfl (bN rfl rfl (WL.pick .nil rfl rfl rfl rfl rfl (wN (eT ?_)))))))
 exact ⟨[(5, iv x20), (7, pt n51 0), (10, iv x0), (11, iv x1), (12, pt n2 0), (13, pt (n2 + 1) 0), (78, .bool (decide (x2.Term = x3.Term)))], (fl7), (decide (x2.Term = x3.Term)), F2, rfl, hS6, (hE2.up (by omega)), ho9, fo3, ho11, fo2, ho10, fo1, h12, h13, h14, h17, h7, h9, h10, h11, h3, h5, h6, hr⟩
 }
 {
 replace hr := ite_neg hr hg3
 refine kN rfl (kN rfl (kN rfl (kN rfl (kN rfl (WL.pick .nil rfl rfl rfl rfl rfl (wN (eT ?_)))))))
 exact ⟨[(5, iv x20), (7, pt n51 0), (10, iv x0), (11, iv x1), (12, pt n2 0), (13, pt (n2 + 1) 0), (78, .bool false)], (fl7), false, F2, rfl, hS6, (hE2.up (by omega)), ho9, fo3, ho11, fo2, ho10, fo1, h12, h13, h14, h17, h7, h9, h10, h11, h3, h5, h6, hr⟩
 }
 }
 {
 replace hr := ite_neg hr hg2
 refine kN rfl (kN rfl (kN rfl (WL.pick .nil rfl rfl rfl rfl rfl (mN rfl (kN rfl (kN rfl (kN rfl (kN rfl (kN rfl (WL.pick .nil rfl rfl rfl rfl rfl (wN ?_)))))))))))
 refine eT ?_
 exact ⟨[(5, iv x20), (7, pt n51 0), (10, iv x0), (11, iv x1), (12, pt n2 0), (13, pt (n2 + 1) 0), (78, .bool false)], (fl7), false, F2, rfl, hS6, (hE2.up (by omega)), ho9, fo3, ho11, fo2, ho10, fo1, h12, h13, h14, h17, h7, h9, h10, h11, h3, h5, h6, hr⟩
 }
 }
 {
 intro _ n3 H7 hI
 obtain ⟨x4, F3, rfl, hS7, hE3, ho12, fo4, ho13, fo5, ho14, fo6, h18, h19, h20, h21, h22, h23, h24, h25, h26, h27, h28, hr⟩ := hI
 have lt4 := hS7.lt ho12
 have lt5 := hS7.lt ho13
 have lt6 := hS7.lt ho14
 have hlen2 := hE3.le
 have hlon5 := hS7.lo
 unfold f_laws_FnLogs_J5 at hr
 refine W.cond rfl (fun hc3 => ?_) (fun hc3 => ?_)
 {
 replace hr := iteB_pos hr hc3
 refine wS (wR (aN rfl (wN (eT (W.ret (eR (Ex.blk_ret (eR (eR (Ex.blk_ret (Ex.blk_ret ?_)))))))))))
 refine eR (eR (Ex.blk_ret (eR ?_)))
 obtain rfl := Option.some.inj hr
 exact ⟨.inr rfl, _, (.cons (.tmp rfl) .nil), ⟨(Ext.st hE3 hS7), rfl⟩⟩
 }
 {
 replace hr := iteB_neg hr hc3
 refine wK (eT (wS (wR (fN rfl U42 rfl info28 rfl (lN rfl U28 rfl ho13 rfl (WL.len .nil rfl rfl rfl U28 rfl (fN rfl U42 rfl info28 rfl (lN rfl U28 rfl ho12 rfl (WL.len .nil rfl rfl rfl U28 rfl (WL.min2 .nil rfl rfl rfl rfl rfl (aN rfl ?_)))))))))))
 refine wN (eT (W.block ?_))
 refine W.loopF (fun k6 fr n H => ∃ (x5 : Int) (F : Heap), fr = [(5, iv x20), (7, pt n51 0), (10, iv x0), (11, iv x1), (12, pt n2 0), (13, pt (n2 + 1) 0), (14, iv x5)] ∧ St n0 n H F ∧ Ext n0 F0 n F ∧ H (n2 + 1) = some (.row 1 [.bool x3.Up, iv x3.Term, iv x3.Vote, iv x3.Commit, iv x3.Role, .slice a5 x3.Log.length cap5, .slice a7 x3.Votes.length cap6, .slice a8 x3.Next.length cap8, .slice a9 x3.Match.length cap9]) ∧ F (n2 + 1) = none ∧ H n2 = some (.row 1 [.bool x2.Up, iv x2.Term, iv x2.Vote, iv x2.Commit, iv x2.Role, .slice a0 x2.Log.length cap0, .slice a1 x2.Votes.length cap1, .slice a3 x2.Next.length cap2, .slice a4 x2.Match.length cap4]) ∧ F n2 = none ∧ H n51 = some (.row 1 [.slice a56 x50.1.Peers.length cap57, .slice a59 x50.1.Net.length cap60, .slice a62 x50.1.Chosen.length cap63, .bool x50.1.Conflict]) ∧ F n51 = none ∧ SR F (.slice a5 x3.Log.length cap5) x3.Log ∧ SR F (.slice a7 x3.Votes.length cap6) x3.Votes ∧ SR F (.slice a8 x3.Next.length cap8) x3.Next ∧ SR F (.slice a9 x3.Match.length cap9) x3.Match ∧ SR F (.slice a0 x2.Log.length cap0) x2.Log ∧ SR F (.slice a1 x2.Votes.length cap1) x2.Votes ∧ SR F (.slice a3 x2.Next.length cap2) x2.Next ∧ SR F (.slice a4 x2.Match.length cap4) x2.Match ∧ SR F (.slice a56 x50.1.Peers.length cap57) x50.1.Peers ∧ SR F (.slice a59 x50.1.Net.length cap60) x50.1.Net ∧ SR F (.slice a62 x50.1.Chosen.length cap63) x50.1.Chosen ∧ f_laws_FnLogs_L6 x2 x3 x1 (f_laws_FnLogs_L3 x0 x50 (f_laws_FnLogs_L2 x20 x50 k2) k3) k6 x5 = some res) BIG (fr0 := [(5, iv x20), (7, pt n51 0), (10, iv x0), (11, iv x1), (12, pt n2 0), (13, pt (n2 + 1) 0), (14, iv (if (x3.Log.length : Int) < (x2.Log.length : Int) then (x3.Log.length : Int) else (x2.Log.length : Int)))]) (fl7) ?_ ?_ ?_
 {
 exact ⟨(if (x3.Log.length : Int) < (x2.Log.length : Int) then (x3.Log.length : Int) else (x2.Log.length : Int)), F3, rfl, hS7, hE3, ho12, fo4, ho13, fo5, ho14, fo6, h18, h19, h20, h21, h22, h23, h24, h25, h26, h27, h28, hr⟩
 }
 {
 intro fr n H hI
 obtain ⟨x5, F4, hfr, hS8, hE4, ho15, fo7, ho16, fo8, ho17, fo9, h29, h30, h31, h32, h33, h34, h35, h37, h38, h39, h40, hr⟩ := hI
 rw [f_laws_FnLogs_L6] at hr
 cases hr
 }
 {
 intro k6 _ n4 H8 hI
 obtain ⟨x5, F4, rfl, hS8, hE4, ho15, fo7, ho16, fo8, ho17, fo9, h29, h30, h31, h32, h33, h34, h35, h37, h38, h39, h40, hr⟩ := hI
 have lt7 := hS8.lt ho15
 have lt8 := hS8.lt ho16
 have lt9 := hS8.lt ho17
 have hlen3 := hE4.le
 have hlon6 := hS8.lo
 rw [f_laws_FnLogs_L6] at hr
 refine wS (wS (wR (mN rfl (bN rfl rfl (wN (eT ?_))))))
 refine W.condD rfl (fun hc4 => ?_) (fun hc4 => ?_)
 {
 replace hr := ite_pos hr hc4
 refine wK (eT (wS (W.block (wS ?_))))
 refine W.regionD r15 f15 rfl rfl kr kr mP ?_
 refine fR rfl U42 rfl info28 rfl (lR rfl U28 rfl ho16 rfl (mR rfl ?_))
 obtain ⟨hc5, hr⟩ := chk_some hr
 refine WL.subI .r rfl rfl rfl rfl rfl hc5.1 hc5.2 ?_
 obtain ⟨x6, hx2, hr⟩ := bnd_some hr
 refine GL.index .r rfl rfl rfl U28 info35 rfl rfl h33 hS8.fh rfl hx2 (fun b2 kp2 c2 ecs2 hrow2 hwin2 hR2 => ?_)
 obtain ⟨a10, cap10, rfl, h41⟩ := GRec.ofR hR2
 refine fR rfl U35 rfl info3 rfl (lR rfl U3 rfl hrow2 ((win_get0 hwin2 (show (0 : Nat) < 3 by decide)).trans rfl) (fR rfl U42 rfl info28 rfl (lR rfl U28 rfl ho15 rfl (mR rfl ?_))))
 obtain ⟨hc6, hr⟩ := chk_some hr
 refine WL.subI .r rfl rfl rfl rfl rfl hc6.1 hc6.2 ?_
 obtain ⟨x7, hx3, hr⟩ := bnd_some hr
 refine GL.index .r rfl rfl rfl U28 info35 rfl rfl h29 hS8.fh rfl hx3 (fun b3 kp3 c3 ecs3 hrow3 hwin3 hR3 => ?_)
 obtain ⟨a11, cap11, rfl, h43⟩ := GRec.ofR hR3
 refine fR rfl U35 rfl info3 rfl (lR rfl U3 rfl hrow3 ((win_get0 hwin3 (show (0 : Nat) < 3 by decide)).trans rfl) (bR rfl rfl (wN (eT ?_))))
 refine W.condD rfl (fun hc7 => ?_) (fun hc7 => ?_)
 {
 replace hr := ite_pos hr hc7
 refine wS (wS ?_)
 refine W.regionD r10 f10 rfl rfl kr kr mP ?_
 refine fR rfl U42 rfl info28 rfl (lR rfl U28 rfl ho16 rfl (mR rfl ?_))
 obtain ⟨xs0, hxs0, hr⟩ := bnd_some hr
 refine GL.slice .r rfl rfl rfl U28 info35 rfl rfl h33 hS8.fh rfl ⟨_, rfl⟩ hxs0 (fun a12 cap12 hid0 h44 => ?_)
 refine fR rfl U42 rfl info28 rfl (lR rfl U28 rfl ho15 rfl (mR rfl ?_))
 obtain ⟨xs2, hxs1, hr⟩ := bnd_some hr
 refine GL.slice .r rfl rfl rfl U28 info35 rfl rfl h29 hS8.fh rfl ⟨_, rfl⟩ hxs1 (fun a13 cap13 hid1 h45 => ?_)
 obtain ⟨x8, hx4, hr⟩ := bnd_some hr
 refine GL.callP g.good .r rfl rfl rfl rfl rfl rfl Try.func12 rfl rfl (Nat.le_refl _) (f_laws_sameRecs_k  g hS8 h44 h45 hx4) (fun v n5 H9 hn0 hk4 hp0 => ?_)
 obtain ⟨hS9, rfl⟩ := hp0
 have ho18 := oA hk4 ho17 lt9
 have hS10 : St n0 n5 H9 F4 := ⟨by have := hS8.lo; omega, hS9.hb, hS9.fh⟩
 have hlon7 := hS10.lo
 refine WL.not .r rfl rfl rfl rfl (wN (eT ?_))
 refine W.cond rfl (fun hc8 => ?_) (fun hc8 => ?_)
 {
 replace hr := iteB_pos hr hc8
 refine wS (wR (aN rfl (wN (eT (W.ret (eR (Ex.blk_ret (eR (eR (Ex.blk_ret (Ex.blk_ret ?_)))))))))))
 refine eR (eR (Ex.blk_ret (Ex.blk_ret (eR (eR (Ex.blk_ret (eR ?_)))))))
 obtain rfl := Option.some.inj hr
 exact ⟨.inr rfl, _, (.cons (.tmp rfl) .nil), ⟨(Ext.st hE4 hS10), rfl⟩⟩
 }
 {
 replace hr := iteB_neg hr hc8
 refine wK (eT (W.exit ?_))
 with_reducible refine Ex.blk_out (by decide) ?_
 refine eX (eX (eH (eB (eT ?_))))
 exact ⟨[(5, iv x20), (7, pt n51 0), (10, iv x0), (11, iv x1)], (fl4), F4, rfl, hS10, (hE4.up (by omega)), ho18, fo9, h38, h39, h40, hr⟩
 }
 }
 {
 replace hr := ite_neg hr hc7
 refine wK (eB (eT (wR (mN rfl ?_))))
 obtain ⟨hc9, hr⟩ := chk_some hr
 refine WL.subI .nil rfl rfl rfl rfl rfl hc9.1 hc9.2 (aN rfl (wN (eT ?_)))
 exact ⟨[(5, iv x20), (7, pt n51 0), (10, iv x0), (11, iv x1), (12, pt n2 0), (13, pt (n2 + 1) 0), (14, iv (x5 - 1))], (fl7), (x5 - 1), F4, rfl, hS8, hE4, ho15, fo7, ho16, fo8, ho17, fo9, h29, h30, h31, h32, h33, h34, h35, h37, h38, h39, h40, hr⟩
 }
 }
 {
 replace hr := ite_neg hr hc4
 refine W.exit (eX (eX (eH (eB (eT ?_)))))
 exact ⟨[(5, iv x20), (7, pt n51 0), (10, iv x0), (11, iv x1)], (fl4), F4, rfl, hS8, hE4, ho17, fo9, h38, h39, h40, hr⟩
 }
 }
 }
 }
 }
 {
 intro _ n6 H10 hI
 obtain ⟨F5, rfl, hS11, hE5, ho19, fo10, h46, h48, h49, hr⟩ := hI
 have lt10 := hS11.lt ho19
 have hlen4 := hE5.le
 have hlon8 := hS11.lo
 unfold f_laws_FnLogs_J4 at hr
 refine wR (mN rfl ?_)
 obtain ⟨hc10, hr⟩ := chk_some hr
 refine WL.addI .nil rfl rfl rfl rfl rfl hc10.1 hc10.2 (aN rfl (wN (eT ?_)))
 exact ⟨[(5, iv x20), (7, pt n51 0), (10, iv x0), (11, iv (x1 + 1))], (fl4), (x1 + 1), F5, rfl, hS11, hE5, ho19, fo10, h46, h48, h49, hr⟩
 }
 }
 {
 replace hr := ite_neg hr hc2
 refine W.exit (eX (eX (eH (eB (eT (wR (mN rfl ?_)))))))
 obtain ⟨hc11, hr⟩ := chk_some hr
 refine WL.addI .nil rfl rfl rfl rfl rfl hc11.1 hc11.2 (aN rfl (wN (eT ?_)))
 exact ⟨[(5, iv x20), (7, pt n51 0), (10, iv (x0 + 1))], (fl3), (x0 + 1), F2, rfl, hS2, hE2, ho1, fo1, h3, h5, h6, hr⟩
 }
 }
 }
 {
 replace hr := ite_neg hr hc1
 refine W.exit (eX (eX (eH (eT (wS (wR (aN rfl (wN (eT (W.ret ?_))))))))))
 obtain rfl := Option.some.inj hr
 exact ⟨.inr rfl, _, (.cons (.tmp rfl) .nil), ⟨(Ext.st hE1 hS1), rfl⟩⟩
 }
 }
 }
 }
 }
 }
end Go.Proofs.YtlpcdcpcfeaecaaAb
end
section
namespace Go.Proofs.YtlpcdcpcfeaecaaAb
open Go
end Go.Proofs.YtlpcdcpcfeaecaaAb
end
section
namespace Go.Proofs.YtlpcdcpcfeaecaaAb
open Go
theorem BIG_eq : BIG = 18446744073709551616 := rfl
theorem slc_tail {α : Type} {xs : List α} {l : Int} (h0 : 0 ≤ l) (h1 : l ≤ xs.length) : slc xs l xs.length = some (xs.drop l.toNat) := by
  rw [slc_pos h0 h1 (Int.le_refl _), Int.toNat_natCast, List.take_length]
theorem slc_head {α : Type} {xs : List α} {h : Int} (h0 : 0 ≤ h) (h1 : h ≤ xs.length) : slc xs 0 h = some (xs.take h.toNat) := by
  rw [slc_pos (Int.le_refl _) h0 h1]; rfl
theorem idx_nat {α : Type} {xs : List α} {j : Nat} (hj : j < xs.length) : idx xs (j : Int) = some xs[j] := by
  rw [idx_pos (by omega) (by omega)]; rfl
@[simp] theorem obind_some {α β : Type} (a : α) (f : α → Option β) : (some a).bind f = f a := Eq.trans rfl rfl
end Go.Proofs.YtlpcdcpcfeaecaaAb
end
section
namespace Go.Proofs.YtlpcdcpcfeaecaaAb
open Go
def DBr (r : GRec) : Prop := r.Data.length ≤ 1000
def DBl (l : List GRec) : Prop := ∀ r ∈ l, DBr r
theorem clone_b {xs : List UInt8} (h : xs.length ≤ 1000000000) : f_slices_Clone_byte xs = some xs := by
  unfold f_slices_Clone_byte; rw [chk_pos (by omega)]
theorem clone_r {xs : List GRec} (h : xs.length ≤ 1000000000) : f_slices_Clone_implRec xs = some xs := by
  unfold f_slices_Clone_implRec; rw [chk_pos (by omega)]
theorem clone_bool {xs : List Bool} (h : xs.length ≤ 1000000000) : f_slices_Clone_bool xs = some xs := by
  unfold f_slices_Clone_bool; rw [chk_pos (by omega)]
theorem clone_int {xs : List Int} (h : xs.length ≤ 1000000000) : f_slices_Clone_int xs = some xs := by
  unfold f_slices_Clone_int; rw [chk_pos (by omega)]
theorem copy_loop {α : Type} {xs : List α} (hl : xs.length ≤ 1000000000) {L : Nat → List α → Int → Option (List α)} {P : α → Prop} (hP : ∀ x ∈ xs, P x)
    (hL : ∀ k acc (i : Nat), (h : i < xs.length) → P xs[i] → acc.length ≤ 1000000000 → L (k + 1) acc (i : Int) = L k (acc ++ [xs[i]]) ((i + 1 : Nat) : Int))
    (hE : ∀ k acc (i : Nat), xs.length ≤ i → L (k + 1) acc (i : Int) = some acc) : L BIG [] 0 = some xs := by
  have key : ∀ (m k i : Nat) (acc : List α), xs.length - i = m → m + 1 ≤ k → i ≤ xs.length → acc = xs.take i → L k acc (i : Int) = some xs := by
    intro m
    induction m with
    | zero =>
      intro k i acc hm hk hi ha
      obtain ⟨k, rfl⟩ : ∃ j, k = j + 1 := ⟨k - 1, by omega⟩
      rw [hE k acc i (by omega), ha, List.take_of_length_le (by omega)]
    | succ m ih =>
      intro k i acc hm hk hi ha
      obtain ⟨k, rfl⟩ : ∃ j, k = j + 1 := ⟨k - 1, by omega⟩
      have hlt : i < xs.length := by omega
      rw [hL k acc i hlt (hP _ (List.getElem_mem hlt)) (by rw [ha, List.length_take]; omega)]
      exact ih k (i + 1) _ (by omega) (by omega) (by omega) (by rw [ha, List.take_succ_eq_append_getElem hlt])
  exact key xs.length BIG 0 [] (by omega) (by rw [BIG_eq]; omega) (by omega) (by simp)
theorem copyRecs_m {xs : List GRec} (hl : xs.length ≤ 1000000000) (hd : DBl xs) : f_impl_copyRecs xs = some xs := by
  unfold f_impl_copyRecs
  refine copy_loop (P := DBr) hl hd (fun k acc i h hr ha => ?_) (fun k acc i h => ?_)
  · unfold DBr at hr
    rw [f_impl_copyRecs_L0, if_pos (by omega), idx_nat h, obind_some, clone_b (by omega), obind_some, chk_pos (by simp; omega), chk_pos (by omega)]
    have e : ((i : Int) + 1) = ((i + 1 : Nat) : Int) := by omega
    rw [e]
  · rw [f_impl_copyRecs_L0, if_neg (by omega)]
theorem copyRecs_o {xs : List GRec} (hl : xs.length ≤ 1000000000) (hd : DBl xs) : f_impl_copyRecs_own0 xs = some xs := by
  unfold f_impl_copyRecs_own0
  refine copy_loop (P := DBr) hl hd (fun k acc i h hr ha => ?_) (fun k acc i h => ?_)
  · unfold DBr at hr
    rw [f_impl_copyRecs_own0_L0, if_pos (by omega), idx_nat h, obind_some, clone_b (by omega), obind_some, chk_pos (by simp; omega), chk_pos (by omega)]
    have e : ((i : Int) + 1) = ((i + 1 : Nat) : Int) := by omega
    rw [e]
  · rw [f_impl_copyRecs_own0_L0, if_neg (by omega)]
theorem copied_m {m : GMsg} (hl : m.Log.length ≤ 1000000000) (hd : DBl m.Log) : f__impl_Msg_copied m = some m := by
  unfold f__impl_Msg_copied; rw [copyRecs_m hl hd]; rfl
theorem copied_o {m : GMsg} (hl : m.Log.length ≤ 1000000000) (hd : DBl m.Log) : f__impl_Msg_copied_own0 m = some m := by
  unfold f__impl_Msg_copied_own0; rw [copyRecs_o hl hd]; rfl
theorem equal_b {xs ys : List UInt8} (h : xs.length ≤ 1000000000) : f_slices_Equal_byte xs ys = some (decide (xs = ys)) := by
  unfold f_slices_Equal_byte
  by_cases hl : xs.length = ys.length
  · rw [if_pos (by omega)]
    have key : ∀ (m k i : Nat), xs.length - i = m → m + 1 ≤ k → i ≤ xs.length → xs.take i = ys.take i → f_slices_Equal_byte_L0 xs ys k (i : Int) = some (decide (xs = ys)) := by
      intro m
      induction m with
      | zero =>
        intro k i hm hk hi ht
        obtain ⟨k, rfl⟩ : ∃ j, k = j + 1 := ⟨k - 1, by omega⟩
        rw [f_slices_Equal_byte_L0, if_neg (by omega)]
        rw [List.take_of_length_le (by omega), List.take_of_length_le (by omega)] at ht
        rw [decide_eq_true ht]
      | succ m ih =>
        intro k i hm hk hi ht
        obtain ⟨k, rfl⟩ : ∃ j, k = j + 1 := ⟨k - 1, by omega⟩
        have h1 : i < xs.length := by omega
        have h2 : i < ys.length := by omega
        have e : ((i : Int) + 1) = ((i + 1 : Nat) : Int) := by omega
        rw [f_slices_Equal_byte_L0, if_pos (by omega), idx_nat h1, obind_some, idx_nat h2, obind_some]
        by_cases hx : xs[i] = ys[i]
        · rw [if_pos (by rw [hx]), chk_pos (by omega), e]
          exact ih k (i + 1) (by omega) (by omega) (by omega) (by rw [List.take_succ_eq_append_getElem h1, List.take_succ_eq_append_getElem h2, ht, hx])
        · rw [if_neg (fun hh => hx (UInt8.toNat_inj.1 (by omega)))]
          rw [decide_eq_false (fun hh => hx (by subst hh; rfl))]
    exact key xs.length BIG 0 (by omega) (by rw [BIG_eq]; omega) (by omega) (by simp)
  · rw [if_neg (by omega), decide_eq_false (fun hh => hl (by rw [hh]))]
def sameR (a b : GRec) : Bool := decide (a.Term = b.Term) && (decide (a.Index = b.Index) && decide (a.Data = b.Data))
theorem sameRec_m {a b : GRec} (h : DBr a) : f_impl_sameRec a b = some (sameR a b) := by
  unfold f_impl_sameRec sameR
  unfold DBr at h
  by_cases h1 : a.Term = b.Term
  · rw [if_pos h1, decide_eq_true h1]
    by_cases h2 : a.Index = b.Index
    · rw [if_pos h2, decide_eq_true h2, equal_b (by omega)]; rfl
    · rw [if_neg h2, decide_eq_false h2]; rfl
  · rw [if_neg h1, decide_eq_false h1]; rfl
theorem sameR_self (a : GRec) : sameR a a = true := by unfold sameR; simp
def chooseL : List GRec → Nat → List GRec → Bool → List GRec × Bool
  | [], _, ch, cf => (ch, cf)
  | r :: rs, i, ch, cf => if i = ch.length then chooseL rs (i + 1) (ch ++ [r]) cf else chooseL rs (i + 1) ch (cf || !((ch[i]?.map (sameR r)).getD false))
theorem choose_L {c : GCluster} {xs : List GRec} (hx : xs.length ≤ 1000) (hd : DBl xs) : ∀ (m k i : Nat) (ch : List GRec) (cf : Bool), xs.length - i = m → m + 1 ≤ k → i ≤ xs.length → i ≤ ch.length → ch.length ≤ 100000 + i →
    f_impl_Cluster_choose_L0 xs c k (i : Int) ch cf = some { c with Chosen := (chooseL (xs.drop i) i ch cf).1, Conflict := (chooseL (xs.drop i) i ch cf).2 } := by
  intro m
  induction m with
  | zero =>
    intro k i ch cf hm hk hi hc hl
    obtain ⟨k, rfl⟩ : ∃ j, k = j + 1 := ⟨k - 1, by omega⟩
    rw [f_impl_Cluster_choose_L0, if_neg (by omega), List.drop_of_length_le (by omega)]
    rfl
  | succ m ih =>
    intro k i ch cf hm hk hi hc hl
    obtain ⟨k, rfl⟩ : ∃ j, k = j + 1 := ⟨k - 1, by omega⟩
    have hlt : i < xs.length := by omega
    have e : ((i : Int) + 1) = ((i + 1 : Nat) : Int) := by omega
    rw [f_impl_Cluster_choose_L0, if_pos (by omega), idx_nat hlt, obind_some, List.drop_eq_getElem_cons hlt]
    unfold chooseL f_impl_Cluster_choose_J1
    by_cases h1 : i = ch.length
    · rw [if_pos (by omega), if_pos h1, chk_pos (by simp; omega), chk_pos (by omega), e]
      exact ih k (i + 1) _ _ (by omega) (by omega) (by omega) (by simp; omega) (by simp; omega)
    · have h2 : i < ch.length := by omega
      rw [if_neg (by omega), if_neg h1, idx_nat h2, obind_some, sameRec_m (hd _ (List.getElem_mem hlt)), obind_some, List.getElem?_eq_getElem h2]
      simp only [Option.map_some, Option.getD_some]
      cases hs : sameR xs[i] ch[i]
      · rw [if_pos (by rfl), chk_pos (by omega), e, ih k (i + 1) _ _ (by omega) (by omega) (by omega) (by omega) (by omega)]
        simp
      · rw [if_neg (by simp), chk_pos (by omega), e, ih k (i + 1) _ _ (by omega) (by omega) (by omega) (by omega) (by omega)]
        simp
theorem within_l (x l h : Int) : f_impl_within x l h = some (decide (l ≤ x ∧ x ≤ h)) := by
  unfold f_impl_within
  by_cases h1 : l ≤ x
  · rw [if_pos h1]; simp [h1]
  · rw [if_neg h1]; simp [h1]
theorem most_m {n : Nat} (h : n ≤ 1000000) : f_impl_most (n : Int) = some ((n : Int) / 2 + 1) := by
  unfold f_impl_most; rw [chk_pos (by omega), chk_pos (by omega)]
def termAt (l : List GRec) (i : Int) : Int := if i = 0 then 0 else ((l[(i - 1).toNat]?).map (·.Term)).getD 0
theorem term_m {p : GPeer} {i : Int} (h0 : 0 ≤ i) (h1 : i ≤ p.Log.length) (hl : p.Log.length ≤ 1000000) : f_impl_Peer_term_elem0 p i = some (termAt p.Log i) := by
  unfold f_impl_Peer_term_elem0 termAt
  by_cases h : i = 0
  · rw [if_pos h, if_pos h]
  · rw [if_neg h, if_neg h, chk_pos (by omega), idx_pos (by omega) (by omega), obind_some, List.getElem?_eq_getElem (by omega)]
    rfl
theorem last_m {p : GPeer} (hl : p.Log.length ≤ 1000000) : f_impl_Peer_last_elem0 p = some ((p.Log.length : Int), termAt p.Log p.Log.length) := by
  unfold f_impl_Peer_last_elem0
  rw [term_m (by omega) (Int.le_refl _) hl]; rfl
theorem repeat_m {x : Int} {n : Nat} (h1 : 1 ≤ n) (h2 : n ≤ 1000) : f_slices_Repeat_int [x] (n : Int) = some (List.replicate n x) := by
  unfold f_slices_Repeat_int
  rw [chk_pos ⟨rfl, by omega, by omega⟩]; rfl
end Go.Proofs.YtlpcdcpcfeaecaaAb
end
section
namespace Go.Proofs.YtlpcdcpcfeaecaaAb
open Go
def mSend (c : GCluster) (m : GMsg) : GCluster := if c.Net.length < 200 then { c with Net := c.Net ++ [m] } else c
theorem send_m {c : GCluster} {m : GMsg} (hl : m.Log.length ≤ 1000000000) (hd : DBl m.Log) : f_impl_Cluster_send c m = some (mSend c m) := by
  unfold f_impl_Cluster_send mSend
  by_cases h : c.Net.length < 200
  · rw [if_pos (by omega), if_pos h]
    obtain ⟨k, f, t, te, a, b, cc, ok, l⟩ := m
    rw [copied_m hl hd, obind_some, chk_pos (by simp; omega)]
  · rw [if_neg (by omega), if_neg h]
theorem mSend_peers {c : GCluster} {m : GMsg} : (mSend c m).Peers = c.Peers := by unfold mSend; split <;> rfl
theorem mSend_chosen {c : GCluster} {m : GMsg} : (mSend c m).Chosen = c.Chosen := by unfold mSend; split <;> rfl
def mChoose (c : GCluster) (p : GPeer) : GCluster :=
  { c with Chosen := (chooseL (p.Log.take p.Commit.toNat) 0 c.Chosen c.Conflict).1, Conflict := (chooseL (p.Log.take p.Commit.toNat) 0 c.Chosen c.Conflict).2 }
theorem mChoose_peers {c : GCluster} {p : GPeer} : (mChoose c p).Peers = c.Peers := rfl
theorem idx_some {α : Type} {xs : List α} {i : Nat} {x : α} (h : xs[i]? = some x) : idx xs (i : Int) = some x := by
  obtain ⟨h1, h2⟩ := List.getElem?_eq_some_iff.1 h
  rw [idx_nat h1, h2]
theorem DBl.take {l : List GRec} (h : DBl l) (n : Nat) : DBl (l.take n) := fun r hr => h r (List.mem_of_mem_take hr)
theorem DBl.drop {l : List GRec} (h : DBl l) (n : Nat) : DBl (l.drop n) := fun r hr => h r (List.mem_of_mem_drop hr)
theorem choose_m {c : GCluster} {i : Nat} {p : GPeer} (hp : c.Peers[i]? = some p) (h0 : 0 ≤ p.Commit) (h1 : p.Commit ≤ p.Log.length) (hl : p.Log.length ≤ 1000) (hd : DBl p.Log) (hc : c.Chosen.length ≤ 100000) :
    f_impl_Cluster_choose c (i : Int) = some (mChoose c p) := by
  unfold f_impl_Cluster_choose
  rw [idx_some hp, obind_some, slc_head h0 h1, obind_some]
  have := choose_L (c := c) (xs := p.Log.take p.Commit.toNat) (by rw [List.length_take]; omega) (hd.take _) _ BIG 0 c.Chosen c.Conflict rfl (by rw [BIG_eq, List.length_take]; omega) (by omega) (by omega) (by omega)
  rw [List.drop_zero] at this
  exact this
def cntGe (n : Int) : List Int → Nat
  | [] => 0
  | x :: l => if n ≤ x then cntGe n l + 1 else cntGe n l
def mMost (c : GCluster) : Int := (c.Peers.length : Int) / 2 + 1
def mCidx (p : GPeer) (q : Int) : Nat → Option Nat
  | 0 => none
  | n + 1 => if p.Commit < ((n + 1 : Nat) : Int) then (if q ≤ (cntGe ((n + 1 : Nat) : Int) p.Match : Int) ∧ termAt p.Log ((n + 1 : Nat) : Int) = p.Term then some (n + 1) else mCidx p q n) else none
theorem mCidx_some {p : GPeer} {q : Int} {a : Nat} : ∀ {n : Nat}, mCidx p q n = some a → p.Commit < a ∧ a ≤ n ∧ termAt p.Log a = p.Term ∧ q ≤ (cntGe a p.Match : Int)
  | 0, h => by cases h
  | n + 1, h => by
    unfold mCidx at h
    split at h
    · next h1 =>
      split at h
      · next h2 => cases h; exact ⟨h1, Nat.le_refl _, h2.2, h2.1⟩
      · obtain ⟨x1, x2, x3⟩ := mCidx_some h; exact ⟨x1, by omega, x3⟩
    · cases h
def mCommitP (q : Int) (p : GPeer) : GPeer := match mCidx p q p.Log.length with | some a => { p with Commit := (a : Int) } | none => p
def mCommit (c : GCluster) (i : Nat) (p : GPeer) : GCluster := mChoose { c with Peers := c.Peers.set i (mCommitP (mMost c) p) } (mCommitP (mMost c) p)
theorem commit_L2 {p : GPeer} {n : Int} {c : GCluster} {i : Int} {rc1 : Int → Option GCluster} (hM : p.Match.length ≤ 1000) : ∀ (m k j t : Nat), p.Match.length - j = m → m + 1 ≤ k → j ≤ p.Match.length → t ≤ j →
    f_impl_Cluster_commit_L2 p n c i rc1 k (t : Int) (j : Int) = (f_impl_most (c.Peers.length : Int)).bind fun q =>
      if q ≤ ((t + cntGe n (p.Match.drop j) : Nat) : Int) then (f_impl_Peer_term_elem0 p n).bind fun x => f_impl_Cluster_commit_J4 c i p n rc1 (decide (x = p.Term)) else f_impl_Cluster_commit_J4 c i p n rc1 false := by
  intro m
  induction m with
  | zero =>
    intro k j t hm hk hj ht
    obtain ⟨k, rfl⟩ : ∃ j, k = j + 1 := ⟨k - 1, by omega⟩
    rw [f_impl_Cluster_commit_L2, if_neg (by omega), List.drop_of_length_le (by omega)]
    rfl
  | succ m ih =>
    intro k j t hm hk hj ht
    obtain ⟨k, rfl⟩ : ∃ j, k = j + 1 := ⟨k - 1, by omega⟩
    have hlt : j < p.Match.length := by omega
    have e : ((j : Int) + 1) = ((j + 1 : Nat) : Int) := by omega
    have e2 : ((t : Int) + 1) = ((t + 1 : Nat) : Int) := by omega
    rw [f_impl_Cluster_commit_L2, if_pos (by omega), idx_nat hlt, obind_some, List.drop_eq_getElem_cons hlt]
    unfold f_impl_Cluster_commit_J3
    by_cases hx : n ≤ p.Match[j]
    · rw [if_pos hx, chk_pos (by omega), chk_pos (by omega), e, e2, ih k (j + 1) (t + 1) (by omega) (by omega) (by omega) (by omega)]
      unfold cntGe
      rw [if_pos hx, show t + (cntGe n (p.Match.drop (j + 1)) + 1) = t + 1 + cntGe n (p.Match.drop (j + 1)) by omega]
      cases p.Match.drop (j + 1) <;> rfl
    · rw [if_neg hx, chk_pos (by omega), e, ih k (j + 1) t (by omega) (by omega) (by omega) (by omega)]
      conv => rhs; unfold cntGe
      rw [if_neg hx]
theorem commit_L1 {p : GPeer} {c : GCluster} {i : Int} (hM : p.Match.length ≤ 1000) (hl : p.Log.length ≤ 1000) (hn : c.Peers.length ≤ 1000) (h0 : 0 ≤ p.Commit) : ∀ (n k : Nat), n + 1 ≤ k → n ≤ p.Log.length →
    f_impl_Cluster_commit_L1 p c i k (n : Int) = f_impl_Cluster_commit_J0 c i (match mCidx p (mMost c) n with | some a => setI c.Peers i { p with Commit := (a : Int) } | none => c.Peers) := by
  intro n
  induction n with
  | zero =>
    intro k hk hj
    obtain ⟨k, rfl⟩ : ∃ j, k = j + 1 := ⟨k - 1, by omega⟩
    rw [f_impl_Cluster_commit_L1, if_neg (by omega)]; rfl
  | succ n ih =>
    intro k hk hj
    obtain ⟨k, rfl⟩ : ∃ j, k = j + 1 := ⟨k - 1, by omega⟩
    rw [f_impl_Cluster_commit_L1]
    unfold mCidx
    by_cases h1 : p.Commit < ((n + 1 : Nat) : Int)
    · rw [if_pos h1, if_pos h1]
      have := commit_L2 (p := p) (n := ((n + 1 : Nat) : Int)) (c := c) (i := i) (rc1 := f_impl_Cluster_commit_L1 p c i k) hM _ BIG 0 0 rfl (by rw [BIG_eq]; omega) (by omega) (by omega)
      rw [List.drop_zero, Nat.zero_add] at this
      refine this.trans ?_
      rw [most_m (by omega), obind_some, show (c.Peers.length : Int) / 2 + 1 = mMost c from rfl]
      have e : (((n + 1 : Nat) : Int) - 1) = (n : Int) := by omega
      by_cases h2 : mMost c ≤ (cntGe ((n + 1 : Nat) : Int) p.Match : Int)
      · rw [if_pos h2, term_m (by omega) (by omega) (by omega), obind_some]
        unfold f_impl_Cluster_commit_J4
        by_cases h3 : termAt p.Log ((n + 1 : Nat) : Int) = p.Term
        · rw [if_pos (by rw [decide_eq_true h3]), if_pos ⟨h2, h3⟩]
        · rw [if_neg (by rw [decide_eq_false h3]; decide), if_neg (fun h => h3 h.2), chk_pos (by omega), e, ih k (by omega) (by omega)]
      · rw [if_neg h2, if_neg (fun h => h2 h.1)]
        unfold f_impl_Cluster_commit_J4
        rw [if_neg (by decide), chk_pos (by omega), e, ih k (by omega) (by omega)]
    · rw [if_neg h1, if_neg h1]
theorem set_self {α : Type} {xs : List α} {i : Nat} {x : α} (h : xs[i]? = some x) : xs.set i x = xs := by
  obtain ⟨h1, h2⟩ := List.getElem?_eq_some_iff.1 h
  rw [← h2, List.set_getElem_self]
theorem get_set {α : Type} {xs : List α} {i : Nat} {x y : α} (h : xs[i]? = some x) : (xs.set i y)[i]? = some y := by
  obtain ⟨h1, h2⟩ := List.getElem?_eq_some_iff.1 h
  rw [List.getElem?_set_self h1]
theorem mCommitP_log {q : Int} {p : GPeer} : (mCommitP q p).Log = p.Log := by unfold mCommitP; split <;> rfl
theorem mCommitP_next {q : Int} {p : GPeer} : (mCommitP q p).Next = p.Next := by unfold mCommitP; split <;> rfl
theorem mCommitP_ge {q : Int} {p : GPeer} (h0 : 0 ≤ p.Commit) (h1 : p.Commit ≤ p.Log.length) : p.Commit ≤ (mCommitP q p).Commit ∧ (mCommitP q p).Commit ≤ p.Log.length := by
  unfold mCommitP
  split
  · next a h => have := mCidx_some h; exact ⟨by show p.Commit ≤ (a : Int); omega, by show (a : Int) ≤ _; omega⟩
  · exact ⟨Int.le_refl _, h1⟩
theorem commit_m {c : GCluster} {i : Nat} {p : GPeer} (hp : c.Peers[i]? = some p) (h0 : 0 ≤ p.Commit) (h1 : p.Commit ≤ p.Log.length) (hl : p.Log.length ≤ 1000) (hM : p.Match.length ≤ 1000) (hn : c.Peers.length ≤ 1000) (hd : DBl p.Log) (hc : c.Chosen.length ≤ 100000) :
    f_impl_Cluster_commit c (i : Int) = some (mCommit c i p) := by
  unfold f_impl_Cluster_commit
  rw [idx_some hp, obind_some, commit_L1 hM hl hn h0 _ BIG (by rw [BIG_eq]; omega) (Nat.le_refl _)]
  have e : (match mCidx p (mMost c) p.Log.length with | some a => setI c.Peers (i : Int) { p with Commit := (a : Int) } | none => c.Peers) = c.Peers.set i (mCommitP (mMost c) p) := by
    unfold mCommitP
    split
    · rfl
    · rw [set_self hp]
  rw [e]
  unfold f_impl_Cluster_commit_J0
  have hb := mCommitP_ge (q := mMost c) h0 h1
  rw [choose_m (c := { c with Peers := c.Peers.set i (mCommitP (mMost c) p) }) (p := mCommitP (mMost c) p) (get_set hp) (by omega) (by rw [mCommitP_log]; omega) (by rw [mCommitP_log]; omega) (by rw [mCommitP_log]; exact hd) hc, obind_some]
  rfl
def mRecords (c : GCluster) (i : Nat) (p : GPeer) (t : Nat) : GCluster :=
  mSend c { Kind := 3, From := (i : Int), To := (t : Int), Term := p.Term, A := (p.Next[t]?.getD 1) - 1, B := termAt p.Log ((p.Next[t]?.getD 1) - 1), C := p.Commit, Ok := false, Log := p.Log.drop ((p.Next[t]?.getD 1) - 1).toNat }
theorem records_m {c : GCluster} {i t : Nat} {p : GPeer} {nx : Int} (hp : c.Peers[i]? = some p) (ht : p.Next[t]? = some nx) (h1 : 1 ≤ nx) (h2 : nx ≤ p.Log.length + 1) (hl : p.Log.length ≤ 1000000) (hd : DBl p.Log) :
    f_impl_Cluster_records c (i : Int) (t : Int) = some (mRecords c i p t) := by
  unfold f_impl_Cluster_records mRecords mSend
  rw [idx_some hp, obind_some, idx_some ht, obind_some, chk_pos (by omega), term_m (by omega) (by omega) hl, obind_some, slc_tail (by omega) (by omega), obind_some, ht, Option.getD_some]
  by_cases h : c.Net.length < 200
  · rw [if_pos (by omega), if_pos h, copied_o (by simp; omega) (hd.drop _), obind_some, chk_pos (by simp; omega)]
  · rw [if_neg (by omega), if_neg h]
theorem mRecords_peers {c : GCluster} {i t : Nat} {p : GPeer} : (mRecords c i p t).Peers = c.Peers := mSend_peers
def mFrom (g : GCluster → Nat → GCluster) (i : Nat) : Nat → Nat → GCluster → GCluster
  | 0, _, d => d
  | m + 1, j, d => mFrom g i m (j + 1) (if j = i then d else g d j)
theorem mFrom_inv {g : GCluster → Nat → GCluster} {i : Nat} {I : GCluster → Prop} (hg : ∀ d j, I d → I (g d j)) : ∀ (m j : Nat) (d : GCluster), I d → I (mFrom g i m j d)
  | 0, _, d, h => h
  | m + 1, j, d, h => by
    unfold mFrom
    refine mFrom_inv hg m (j + 1) _ ?_
    split
    · exact h
    · exact hg _ _ h
theorem from_loop {n i : Nat} {F : Nat → Int → List GPeer → List GMsg → List GRec → Bool → Option GCluster} {g : GCluster → Nat → GCluster} {fin : GCluster → Option GCluster} {I : GCluster → Prop} (hn : n ≤ 1000)
    (hI : ∀ d j, I d → I (g d j))
    (hs : ∀ k j d, I d → j < n → j = i → F (k + 1) (j : Int) d.Peers d.Net d.Chosen d.Conflict = F k ((j + 1 : Nat) : Int) d.Peers d.Net d.Chosen d.Conflict)
    (hg : ∀ k j d, I d → j < n → j ≠ i → F (k + 1) (j : Int) d.Peers d.Net d.Chosen d.Conflict = F k ((j + 1 : Nat) : Int) (g d j).Peers (g d j).Net (g d j).Chosen (g d j).Conflict)
    (he : ∀ k j d, I d → n ≤ j → F (k + 1) (j : Int) d.Peers d.Net d.Chosen d.Conflict = fin d) (d : GCluster) (hd : I d) :
    F BIG 0 d.Peers d.Net d.Chosen d.Conflict = fin (mFrom g i n 0 d) := by
  have key : ∀ (m k j : Nat) (d : GCluster), n - j = m → m + 1 ≤ k → I d → F k (j : Int) d.Peers d.Net d.Chosen d.Conflict = fin (mFrom g i m j d) := by
    intro m
    induction m with
    | zero =>
      intro k j d hm hk hd
      obtain ⟨k, rfl⟩ : ∃ j, k = j + 1 := ⟨k - 1, by omega⟩
      rw [he k j d hd (by omega)]; rfl
    | succ m ih =>
      intro k j d hm hk hd
      obtain ⟨k, rfl⟩ : ∃ j, k = j + 1 := ⟨k - 1, by omega⟩
      unfold mFrom
      by_cases hji : j = i
      · rw [hs k j d hd (by omega) hji, if_pos hji]
        exact ih k (j + 1) d (by omega) (by omega) hd
      · rw [hg k j d hd (by omega) hji, if_neg hji]
        exact ih k (j + 1) _ (by omega) (by omega) (hI _ _ hd)
  exact key n BIG 0 d (by omega) (by rw [BIG_eq]; omega) hd
def NextOk (n : Nat) (p : GPeer) : Prop := p.Next.length = n ∧ ∀ x ∈ p.Next, 1 ≤ x ∧ x ≤ (p.Log.length : Int) + 1
theorem NextOk.get {n : Nat} {p : GPeer} (h : NextOk n p) {t : Nat} (ht : t < n) : ∃ nx, p.Next[t]? = some nx ∧ 1 ≤ nx ∧ nx ≤ (p.Log.length : Int) + 1 :=
  ⟨p.Next[t]'(by rw [h.1]; exact ht), List.getElem?_eq_getElem _, h.2 _ (List.getElem_mem _)⟩
def mSendAll (c : GCluster) (i : Nat) (p : GPeer) : GCluster := mFrom (fun d j => mRecords d i p j) i c.Peers.length 0 c
theorem mSendAll_peers {c : GCluster} {i : Nat} {p : GPeer} : (mSendAll c i p).Peers = c.Peers :=
  mFrom_inv (I := fun d => d.Peers = c.Peers) (fun d j h => by rw [← h]; exact mRecords_peers) _ _ _ rfl
theorem elect_L3 {c d : GCluster} {i : Nat} {p : GPeer} (hp : d.Peers[i]? = some p) (hn : c.Peers.length ≤ 1000) (hdn : d.Peers.length = c.Peers.length) (hx : NextOk c.Peers.length p) (hl : p.Log.length ≤ 1000000) (hd : DBl p.Log) :
    f_impl_Cluster_elect_L3 c (i : Int) BIG 0 d.Peers d.Net d.Chosen d.Conflict = some (mSendAll d i p) := by
  unfold mSendAll; rw [hdn]
  refine from_loop (F := fun k j a b cc e => f_impl_Cluster_elect_L3 c (i : Int) k j a b cc e) (fin := some) (I := fun e => e.Peers = d.Peers) hn (fun e j h => by rw [← h]; exact mRecords_peers) (fun k j e he hj hji => ?_) (fun k j e he hj hji => ?_) (fun k j e he hj => ?_) d rfl
  · show f_impl_Cluster_elect_L3 _ _ (k + 1) _ _ _ _ _ = _
    rw [f_impl_Cluster_elect_L3, if_pos (by omega), if_pos (by omega)]
    unfold f_impl_Cluster_elect_J4
    rw [chk_pos (by omega), show ((j : Int) + 1) = ((j + 1 : Nat) : Int) by omega]
  · obtain ⟨nx, h1, h2, h3⟩ := hx.get hj
    show f_impl_Cluster_elect_L3 _ _ (k + 1) _ _ _ _ _ = _
    rw [f_impl_Cluster_elect_L3, if_pos (by omega), if_neg (by omega)]
    unfold f_impl_Cluster_elect_J4
    rw [records_m (p := p) (by show e.Peers[i]? = _; rw [he]; exact hp) h1 h2 h3 hl hd, obind_some, chk_pos (by omega), show ((j : Int) + 1) = ((j + 1 : Nat) : Int) by omega]
  · show f_impl_Cluster_elect_L3 _ _ (k + 1) _ _ _ _ _ = _
    rw [f_impl_Cluster_elect_L3, if_neg (by omega)]
theorem tick_L0 {c : GCluster} {i : Nat} {p : GPeer} (hp : c.Peers[i]? = some p) (hn : c.Peers.length ≤ 1000) (hx : NextOk c.Peers.length p) (hl : p.Log.length ≤ 1000000) (hd : DBl p.Log) :
    f_impl_Cluster_tick_L0 c (i : Int) BIG 0 c.Peers c.Net c.Chosen c.Conflict = some (mSendAll c i p) := by
  unfold mSendAll
  refine from_loop (F := fun k j a b cc e => f_impl_Cluster_tick_L0 c (i : Int) k j a b cc e) (fin := some) (I := fun e => e.Peers = c.Peers) hn (fun e j h => by rw [← h]; exact mRecords_peers) (fun k j e he hj hji => ?_) (fun k j e he hj hji => ?_) (fun k j e he hj => ?_) c rfl
  · show f_impl_Cluster_tick_L0 _ _ (k + 1) _ _ _ _ _ = _
    rw [f_impl_Cluster_tick_L0, if_pos (by omega), if_pos (by omega)]
    unfold f_impl_Cluster_tick_J1
    rw [chk_pos (by omega), show ((j : Int) + 1) = ((j + 1 : Nat) : Int) by omega]
  · obtain ⟨nx, h1, h2, h3⟩ := hx.get hj
    show f_impl_Cluster_tick_L0 _ _ (k + 1) _ _ _ _ _ = _
    rw [f_impl_Cluster_tick_L0, if_pos (by omega), if_neg (by omega)]
    unfold f_impl_Cluster_tick_J1
    rw [records_m (p := p) (by show e.Peers[i]? = _; rw [he]; exact hp) h1 h2 h3 hl hd, obind_some, chk_pos (by omega), show ((j : Int) + 1) = ((j + 1 : Nat) : Int) by omega]
  · show f_impl_Cluster_tick_L0 _ _ (k + 1) _ _ _ _ _ = _
    rw [f_impl_Cluster_tick_L0, if_neg (by omega)]
end Go.Proofs.YtlpcdcpcfeaecaaAb
end
section
namespace Go.Proofs.YtlpcdcpcfeaecaaAb
open Go
def cntT : List Bool → Nat
  | [] => 0
  | b :: l => if b = true then cntT l + 1 else cntT l
def mLeader (n i : Nat) (p : GPeer) : GPeer :=
  { p with Role := 2, Votes := [], Next := List.replicate n ((p.Log.length : Int) + 1), Match := (List.replicate n (0 : Int)).set i (p.Log.length : Int) }
def mLead (c : GCluster) (i : Nat) (p : GPeer) : GCluster := { c with Peers := c.Peers.set i (mLeader c.Peers.length i p) }
def mElect (c : GCluster) (i : Nat) (p : GPeer) : GCluster :=
  if p.Role = 1 ∧ mMost c ≤ (cntT p.Votes : Int) then mSendAll (mCommit (mLead c i p) i (mLeader c.Peers.length i p)) i (mCommitP (mMost (mLead c i p)) (mLeader c.Peers.length i p)) else c
theorem elect_L0 {p : GPeer} {c : GCluster} {i : Int} (hM : p.Votes.length ≤ 1000) : ∀ (m k j t : Nat), p.Votes.length - j = m → m + 1 ≤ k → j ≤ p.Votes.length → t ≤ j →
    f_impl_Cluster_elect_L0 p c i k (t : Int) (j : Int) = if p.Role = 1 then (f_impl_most (c.Peers.length : Int)).bind fun q => f_impl_Cluster_elect_J2 c p i (decide (((t + cntT (p.Votes.drop j) : Nat) : Int) < q)) else f_impl_Cluster_elect_J2 c p i true := by
  intro m
  induction m with
  | zero =>
    intro k j t hm hk hj ht
    obtain ⟨k, rfl⟩ : ∃ j, k = j + 1 := ⟨k - 1, by omega⟩
    rw [f_impl_Cluster_elect_L0, if_neg (by omega), List.drop_of_length_le (by omega)]
    rfl
  | succ m ih =>
    intro k j t hm hk hj ht
    obtain ⟨k, rfl⟩ : ∃ j, k = j + 1 := ⟨k - 1, by omega⟩
    have hlt : j < p.Votes.length := by omega
    have e : ((j : Int) + 1) = ((j + 1 : Nat) : Int) := by omega
    have e2 : ((t : Int) + 1) = ((t + 1 : Nat) : Int) := by omega
    rw [f_impl_Cluster_elect_L0, if_pos (by omega), idx_nat hlt, obind_some, List.drop_eq_getElem_cons hlt]
    unfold f_impl_Cluster_elect_J1
    by_cases hx : p.Votes[j] = true
    · rw [if_pos hx, chk_pos (by omega), chk_pos (by omega), e, e2, ih k (j + 1) (t + 1) (by omega) (by omega) (by omega) (by omega)]
      conv => rhs; unfold cntT
      rw [if_pos hx, show t + (cntT (p.Votes.drop (j + 1)) + 1) = t + 1 + cntT (p.Votes.drop (j + 1)) by omega]
    · rw [if_neg hx, chk_pos (by omega), e, ih k (j + 1) t (by omega) (by omega) (by omega) (by omega)]
      conv => rhs; unfold cntT
      rw [if_neg hx]
theorem lead_next {n i : Nat} {p : GPeer} (q : Int) : NextOk n (mCommitP q (mLeader n i p)) := by
  unfold NextOk
  rw [mCommitP_next, mCommitP_log]
  unfold mLeader
  refine ⟨List.length_replicate, fun x hx => ?_⟩
  rw [List.eq_of_mem_replicate hx]
  exact ⟨by omega, Int.le_refl _⟩
theorem elect_m {c : GCluster} {i : Nat} {p : GPeer} (hp : c.Peers[i]? = some p) (hn : c.Peers.length ≤ 1000) (hv : p.Votes.length ≤ 1000) (h0 : 0 ≤ p.Commit) (h1 : p.Commit ≤ p.Log.length) (hl : p.Log.length ≤ 1000) (hd : DBl p.Log) (hc : c.Chosen.length ≤ 100000) :
    f_impl_Cluster_elect c (i : Int) = some (mElect c i p) := by
  have hi : i < c.Peers.length := (List.getElem?_eq_some_iff.1 hp).1
  unfold f_impl_Cluster_elect mElect
  rw [idx_some hp, obind_some]
  have := elect_L0 (p := p) (c := c) (i := (i : Int)) hv _ BIG 0 0 rfl (by rw [BIG_eq]; omega) (by omega) (by omega)
  rw [List.drop_zero, Nat.zero_add] at this
  refine this.trans ?_
  by_cases hr : p.Role = 1
  · rw [if_pos hr, most_m (by omega), obind_some, show (c.Peers.length : Int) / 2 + 1 = mMost c from rfl]
    unfold f_impl_Cluster_elect_J2
    by_cases hq : mMost c ≤ (cntT p.Votes : Int)
    · rw [if_neg (by rw [decide_eq_false (by omega)]; decide), if_pos ⟨hr, hq⟩, chk_pos (by omega), chk_pos (by omega), repeat_m (by omega) (by omega), obind_some, idx_nat (by simp; omega), obind_some]
      have hp2 : (mLead c i p).Peers[i]? = some (mLeader c.Peers.length i p) := get_set hp
      have := commit_m (c := mLead c i p) (i := i) hp2 h0 h1 hl (by unfold mLeader; simp; omega) (by unfold mLead; simp; omega) hd hc
      refine (congrArg (fun o => Option.bind o (fun x : GCluster => f_impl_Cluster_elect_L3 c (i : Int) BIG 0 x.Peers x.Net x.Chosen x.Conflict)) this).trans ?_
      rw [obind_some]
      have hx : NextOk c.Peers.length (mCommitP (mMost (mLead c i p)) (mLeader c.Peers.length i p)) := lead_next _
      have hlen : (mCommit (mLead c i p) i (mLeader c.Peers.length i p)).Peers.length = c.Peers.length := by
        unfold mCommit mLead; rw [mChoose_peers]; simp
      refine elect_L3 (d := mCommit (mLead c i p) i (mLeader c.Peers.length i p)) ?_ hn hlen hx ?_ ?_
      · unfold mCommit; rw [mChoose_peers]; exact get_set hp2
      · rw [mCommitP_log]; exact (show p.Log.length ≤ 1000000 by omega)
      · rw [mCommitP_log]; exact hd
    · rw [if_pos (by rw [decide_eq_true (by omega)]), if_neg (fun h => hq h.2)]
  · rw [if_neg hr, if_neg (fun h => hr h.1)]
    unfold f_impl_Cluster_elect_J2
    rw [if_pos rfl]
def mCand (n i : Nat) (p : GPeer) : GPeer :=
  { p with Term := p.Term + 1, Vote := (i : Int) + 1, Role := 1, Votes := (List.replicate n false).set i true, Next := [], Match := [] }
def mAsk (i : Nat) (p : GPeer) (c : GCluster) (j : Nat) : GCluster :=
  mSend c { Kind := 1, From := (i : Int), To := (j : Int), Term := p.Term, A := (p.Log.length : Int), B := termAt p.Log p.Log.length, C := 0, Ok := false, Log := [] }
def mStand (c : GCluster) (i : Nat) (p : GPeer) : GCluster := { c with Peers := c.Peers.set i (mCand c.Peers.length i p) }
def mAskAll (c : GCluster) (i : Nat) (p : GPeer) : GCluster := mFrom (mAsk i p) i c.Peers.length 0 c
theorem mAskAll_peers {c : GCluster} {i : Nat} {p : GPeer} : (mAskAll c i p).Peers = c.Peers :=
  mFrom_inv (I := fun d => d.Peers = c.Peers) (fun d j h => by rw [← h]; exact mSend_peers) _ _ _ rfl
theorem mAskAll_chosen {c : GCluster} {i : Nat} {p : GPeer} : (mAskAll c i p).Chosen = c.Chosen :=
  mFrom_inv (I := fun d => d.Chosen = c.Chosen) (fun d j h => by rw [← h]; exact mSend_chosen) _ _ _ rfl
def mTick (c : GCluster) (i : Nat) (p : GPeer) : GCluster :=
  if p.Role = 2 then mSendAll c i p
  else if p.Term < 1000000 then mElect (mAskAll (mStand c i p) i (mCand c.Peers.length i p)) i (mCand c.Peers.length i p) else c
theorem DBl.nil : DBl [] := fun r hr => nomatch hr
theorem tick_L2 {c e0 : GCluster} {i : Nat} {p : GPeer} {fin : Option GCluster} (hp : e0.Peers[i]? = some p) (hn : c.Peers.length ≤ 1000) (hdn : e0.Peers.length = c.Peers.length) :
    f_impl_Cluster_tick_L2 c (i : Int) ((p.Log.length : Int), termAt p.Log p.Log.length) BIG 0 e0.Peers e0.Net e0.Chosen e0.Conflict = f_impl_Cluster_elect (mAskAll e0 i p) (i : Int) := by
  unfold mAskAll; rw [hdn]
  refine from_loop (F := fun k j a b cc e => f_impl_Cluster_tick_L2 c (i : Int) ((p.Log.length : Int), termAt p.Log p.Log.length) k j a b cc e) (fin := fun d => f_impl_Cluster_elect d (i : Int)) (I := fun e => e.Peers = e0.Peers) hn (fun e j h => by rw [← h]; exact mSend_peers) (fun k j e he hj hji => ?_) (fun k j e he hj hji => ?_) (fun k j e he hj => ?_) e0 rfl
  · show f_impl_Cluster_tick_L2 _ _ _ (k + 1) _ _ _ _ _ = _
    rw [f_impl_Cluster_tick_L2, if_pos (by omega), if_pos (by omega)]
    unfold f_impl_Cluster_tick_J3
    rw [chk_pos (by omega), show ((j : Int) + 1) = ((j + 1 : Nat) : Int) by omega]
  · show f_impl_Cluster_tick_L2 _ _ _ (k + 1) _ _ _ _ _ = _
    rw [f_impl_Cluster_tick_L2, if_pos (by omega), if_neg (by omega)]
    unfold f_impl_Cluster_tick_J3
    rw [idx_some (x := p) (by rw [he]; exact hp), obind_some, send_m (by simp) DBl.nil, obind_some, chk_pos (by omega), show ((j : Int) + 1) = ((j + 1 : Nat) : Int) by omega]
    rfl
  · show f_impl_Cluster_tick_L2 _ _ _ (k + 1) _ _ _ _ _ = _
    rw [f_impl_Cluster_tick_L2, if_neg (by omega)]
    cases f_impl_Cluster_elect e (i : Int) <;> rfl
theorem tick_m {c : GCluster} {i : Nat} {p : GPeer} (hp : c.Peers[i]? = some p) (hn : c.Peers.length ≤ 1000) (h2 : p.Role = 2 → NextOk c.Peers.length p) (ht : 0 ≤ p.Term) (h0 : 0 ≤ p.Commit) (h1 : p.Commit ≤ p.Log.length) (hl : p.Log.length ≤ 1000) (hd : DBl p.Log) (hc : c.Chosen.length ≤ 100000) :
    f_impl_Cluster_tick c (i : Int) = some (mTick c i p) := by
  have hi : i < c.Peers.length := (List.getElem?_eq_some_iff.1 hp).1
  unfold f_impl_Cluster_tick mTick
  rw [idx_some hp, obind_some]
  by_cases hr : p.Role = 2
  · rw [if_pos hr, if_pos hr, tick_L0 hp hn (h2 hr) (by omega) hd]
  · rw [if_neg hr, if_neg hr]
    by_cases h3 : p.Term < 1000000
    · rw [if_pos h3, if_pos h3, chk_pos (by omega), chk_pos (by omega), chk_pos (by omega), idx_nat (by simp; omega), obind_some, last_m (by show p.Log.length ≤ _; omega), obind_some]
      have hp2 : (mStand c i p).Peers[i]? = some (mCand c.Peers.length i p) := get_set hp
      have hlen : (mStand c i p).Peers.length = c.Peers.length := by unfold mStand; simp
      refine (tick_L2 (c := c) (e0 := mStand c i p) (fin := none) hp2 hn hlen).trans ?_
      refine elect_m (by rw [mAskAll_peers]; exact hp2) (by rw [mAskAll_peers, hlen]; exact hn) (by unfold mCand; simp; omega) h0 h1 hl hd (by rw [mAskAll_chosen]; exact hc)
    · rw [if_neg h3, if_neg h3]
def takeL : List GRec → List GRec → Int → List GRec × Int
  | [], l, a => (l, a)
  | r :: rs, l, _ =>
    let l1 := if r.Index ≤ (l.length : Int) ∧ termAt l r.Index ≠ r.Term then l.take (r.Index - 1).toNat else l
    takeL rs (if (l1.length : Int) < r.Index then l1 ++ [r] else l1) r.Index
def mnx (a b k : Int) : Int := if (if a < b then a else b) > k then (if a < b then a else b) else k
theorem take_L2 {m rep : GMsg} {c : GCluster} {p1 q : GPeer} {xs : List GPeer} {i : Nat} (hi : i < xs.length) (ht : m.To = (i : Int)) (hr : ∀ r ∈ m.Log, 1 ≤ r.Index ∧ r.Index ≤ 1000000) (hm : m.Log.length ≤ 1000) :
    ∀ (n k j : Nat) (l : List GRec) (a : Int), m.Log.length - j = n → n + 1 ≤ k → j ≤ m.Log.length → l.length ≤ 100000 + j →
    f_impl_Cluster_take_L2 m c rep p1 k a (j : Int) (xs.set i { q with Log := l }) =
      (f_impl_Cluster_choose { c with Peers := xs.set i { q with Log := (takeL (m.Log.drop j) l a).1, Commit := mnx (takeL (m.Log.drop j) l a).2 m.C q.Commit } } (i : Int)).bind fun d =>
        (f_impl_Cluster_send d { rep with Kind := 4, Term := p1.Term, A := (takeL (m.Log.drop j) l a).2, Ok := true }).bind some := by
  have hget : ∀ l, idx (xs.set i { q with Log := l }) (i : Int) = some { q with Log := l } := fun l => by
    rw [idx_nat (by simp; exact hi)]; simp
  have hset : ∀ l (z : GPeer), setI (xs.set i { q with Log := l }) (i : Int) z = xs.set i z := fun l z => by
    show (xs.set i _).set i z = _
    rw [List.set_set]
  intro n
  induction n with
  | zero =>
    intro k j l a hn hk hj hl
    obtain ⟨k, rfl⟩ : ∃ j, k = j + 1 := ⟨k - 1, by omega⟩
    rw [f_impl_Cluster_take_L2, if_neg (by omega), List.drop_of_length_le (by omega), ht, hget, obind_some, hset]
    rfl
  | succ n ih =>
    intro k j l a hn hk hj hl
    obtain ⟨k, rfl⟩ : ∃ j, k = j + 1 := ⟨k - 1, by omega⟩
    have hlt : j < m.Log.length := by omega
    have e : ((j : Int) + 1) = ((j + 1 : Nat) : Int) := by omega
    obtain ⟨r1, r2⟩ := hr _ (List.getElem_mem hlt)
    have h5 : ∀ l1 : List GRec, l1.length ≤ 100000 + j → f_impl_Cluster_take_J5 m m.Log[j] (j : Int) (f_impl_Cluster_take_L2 m c rep p1 k) (xs.set i { q with Log := l1 }) = f_impl_Cluster_take_L2 m c rep p1 k m.Log[j].Index ((j + 1 : Nat) : Int) (xs.set i { q with Log := (if (l1.length : Int) < m.Log[j].Index then l1 ++ [m.Log[j]] else l1) }) := by
      intro l1 h1
      unfold f_impl_Cluster_take_J5 f_impl_Cluster_take_J3
      rw [ht, hget, obind_some]
      by_cases h : (l1.length : Int) < m.Log[j].Index
      · rw [if_pos h, if_pos h, chk_pos (by simp; omega), chk_pos (by omega), e, hset]
      · rw [if_neg h, if_neg h, chk_pos (by omega), e]
    have h4 : f_impl_Cluster_take_L2 m c rep p1 (k + 1) a (j : Int) (xs.set i { q with Log := l }) = f_impl_Cluster_take_J4 (xs.set i { q with Log := l }) m m.Log[j] (j : Int) (f_impl_Cluster_take_L2 m c rep p1 k) (decide (m.Log[j].Index ≤ (l.length : Int) ∧ termAt l m.Log[j].Index ≠ m.Log[j].Term)) := by
      rw [f_impl_Cluster_take_L2, if_pos (by omega), idx_nat hlt, obind_some, ht, hget, obind_some]
      by_cases h : m.Log[j].Index ≤ (l.length : Int)
      · rw [if_pos h, term_m (p := { q with Log := l }) (by omega) h (by show l.length ≤ _; omega), obind_some]
        simp [h]
      · rw [if_neg h]
        simp [h]
    rw [h4, List.drop_eq_getElem_cons hlt]
    unfold takeL f_impl_Cluster_take_J4
    by_cases h : m.Log[j].Index ≤ (l.length : Int) ∧ termAt l m.Log[j].Index ≠ m.Log[j].Term
    · have hll : (l.take (m.Log[j].Index - 1).toNat).length ≤ 100000 + j := by rw [List.length_take]; omega
      rw [if_pos (by rw [decide_eq_true h]), if_pos h, ht, hget, obind_some, chk_pos (by omega), slc_head (by omega) (by show _ ≤ (l.length : Int); omega), obind_some, clone_r (by rw [List.length_take]; show min _ l.length ≤ _; omega), obind_some, hset]
      rw [show f_impl_Cluster_take_J5 m m.Log[j] (j : Int) (f_impl_Cluster_take_L2 m c rep p1 k) _ = _ from h5 (l.take (m.Log[j].Index - 1).toNat) hll]
      refine (ih k (j + 1) _ _ (by omega) (by omega) (by omega) ?_).trans rfl
      split
      · simp; omega
      · omega
    · rw [if_neg (by rw [decide_eq_false h]; decide), if_neg h, h5 l hl]
      refine (ih k (j + 1) _ _ (by omega) (by omega) (by omega) ?_).trans rfl
      split
      · simp; omega
      · omega
end Go.Proofs.YtlpcdcpcfeaecaaAb
end
section
namespace Go.Proofs.YtlpcdcpcfeaecaaAb
open Go
section
variable {P : GRec → Prop}
theorem chooseL_all : ∀ (l : List GRec) (i : Nat) (ch : List GRec) (cf : Bool), (∀ r ∈ l, P r) → (∀ r ∈ ch, P r) → ∀ r ∈ (chooseL l i ch cf).1, P r
  | [], _, ch, _, _, h => h
  | r :: rs, i, ch, cf, h1, h => by
    unfold chooseL
    split
    · refine chooseL_all rs _ _ _ (fun x hx => h1 x (List.mem_cons_of_mem _ hx)) (fun x hx => ?_)
      rcases List.mem_append.1 hx with hx | hx
      · exact h x hx
      · rw [List.mem_singleton.1 hx]; exact h1 r List.mem_cons_self
    · exact chooseL_all rs _ _ _ (fun x hx => h1 x (List.mem_cons_of_mem _ hx)) h
theorem add_all {l1 : List GRec} {r : GRec} (h : ∀ x ∈ l1, P x) (hr : P r) : ∀ x ∈ (if (l1.length : Int) < r.Index then l1 ++ [r] else l1), P x := by
  intro x hx
  split at hx
  · rcases List.mem_append.1 hx with hx | hx
    · exact h x hx
    · rw [List.mem_singleton.1 hx]; exact hr
  · exact h x hx
theorem takeL_all : ∀ (ms : List GRec) (l : List GRec) (a : Int), (∀ r ∈ ms, P r) → (∀ r ∈ l, P r) → ∀ r ∈ (takeL ms l a).1, P r
  | [], l, _, _, h => h
  | r :: rs, l, a, h1, h => by
    unfold takeL
    have hl1 : ∀ x ∈ (if r.Index ≤ (l.length : Int) ∧ termAt l r.Index ≠ r.Term then l.take (r.Index - 1).toNat else l), P x := by
      intro x hx
      split at hx
      · exact h x (List.mem_of_mem_take hx)
      · exact h x hx
    exact takeL_all rs _ _ (fun x hx => h1 x (List.mem_cons_of_mem _ hx)) (add_all hl1 (h1 r List.mem_cons_self))
end
structure DBc (c : GCluster) : Prop where
  peers : ∀ p ∈ c.Peers, DBl p.Log
  net : ∀ m ∈ c.Net, DBl m.Log
  chosen : DBl c.Chosen
theorem DBc.send {c : GCluster} {m : GMsg} (h : DBc c) (hm : DBl m.Log) : DBc (mSend c m) := by
  unfold mSend
  split
  · refine ⟨h.peers, fun x hx => ?_, h.chosen⟩
    rcases List.mem_append.1 hx with hx | hx
    · exact h.net x hx
    · rw [List.mem_singleton.1 hx]; exact hm
  · exact h
theorem DBc.choose {c : GCluster} {p : GPeer} (h : DBc c) (hp : DBl p.Log) : DBc (mChoose c p) :=
  ⟨h.peers, h.net, chooseL_all _ _ _ _ (hp.take _) h.chosen⟩
theorem DBc.set {c : GCluster} {i : Nat} {p : GPeer} (h : DBc c) (hp : DBl p.Log) : DBc { c with Peers := c.Peers.set i p } :=
  ⟨fun x hx => by
    rcases List.mem_or_eq_of_mem_set hx with hx | rfl
    · exact h.peers x hx
    · exact hp, h.net, h.chosen⟩
theorem DBc.commit {c : GCluster} {i : Nat} {p : GPeer} (h : DBc c) (hp : DBl p.Log) : DBc (mCommit c i p) :=
  (h.set (p := mCommitP (mMost c) p) (by rw [mCommitP_log]; exact hp)).choose (by rw [mCommitP_log]; exact hp)
theorem DBc.records {c : GCluster} {i t : Nat} {p : GPeer} (h : DBc c) (hp : DBl p.Log) : DBc (mRecords c i p t) := h.send (hp.drop _)
theorem DBc.sendAll {c : GCluster} {i : Nat} {p : GPeer} (h : DBc c) (hp : DBl p.Log) : DBc (mSendAll c i p) := mFrom_inv (I := DBc) (fun d j hd => hd.records hp) _ _ _ h
theorem DBc.elect {c : GCluster} {i : Nat} {p : GPeer} (h : DBc c) (hp : DBl p.Log) : DBc (mElect c i p) := by
  unfold mElect
  split
  · exact DBc.sendAll ((h.set (p := mLeader c.Peers.length i p) hp).commit hp) (by rw [mCommitP_log]; exact hp)
  · exact h
theorem DBc.tick {c : GCluster} {i : Nat} {p : GPeer} (h : DBc c) (hp : DBl p.Log) : DBc (mTick c i p) := by
  unfold mTick
  split
  · exact h.sendAll hp
  · split
    · exact DBc.elect (mFrom_inv (I := DBc) (fun d j hd => hd.send DBl.nil) _ _ _ (h.set (p := mCand c.Peers.length i p) hp)) hp
    · exact h
def mBack (m : GMsg) (t a : Int) (ok : Bool) : GMsg := { Kind := 4, From := m.To, To := m.From, Term := t, A := a, B := 0, C := 0, Ok := ok, Log := [] }
def mFresh (m : GMsg) (p : GPeer) : GPeer := if p.Term < m.Term then { p with Term := m.Term, Vote := 0 } else p
def mFollow (m : GMsg) (p : GPeer) : GPeer := { mFresh m p with Role := 0, Votes := [], Next := [], Match := [] }
def mTaken (m : GMsg) (p : GPeer) : GPeer := { mFollow m p with Log := (takeL m.Log p.Log m.A).1, Commit := mnx (takeL m.Log p.Log m.A).2 m.C p.Commit }
def mTake (c : GCluster) (m : GMsg) (i : Nat) (p : GPeer) : GCluster :=
  if m.Term < p.Term then mSend c (mBack m p.Term 0 false)
  else if (p.Log.length : Int) < m.A ∨ termAt p.Log m.A ≠ m.B then
    mSend { c with Peers := c.Peers.set i (mFollow m p) } (mBack m (mFresh m p).Term (if (p.Log.length : Int) < (m.A - 1) then (p.Log.length : Int) else (m.A - 1)) false)
  else mSend (mChoose { c with Peers := c.Peers.set i (mTaken m p) } (mTaken m p)) (mBack m (mFresh m p).Term (takeL m.Log p.Log m.A).2 true)
theorem mFresh_log {m : GMsg} {p : GPeer} : (mFresh m p).Log = p.Log := by unfold mFresh; split <;> rfl
theorem mFresh_commit {m : GMsg} {p : GPeer} : (mFresh m p).Commit = p.Commit := by unfold mFresh; split <;> rfl
theorem DBc.take {c : GCluster} {m : GMsg} {i : Nat} {p : GPeer} (h : DBc c) (hm : DBl m.Log) (hp : DBl p.Log) : DBc (mTake c m i p) := by
  have h2 : DBl (takeL m.Log p.Log m.A).1 := takeL_all _ _ _ hm hp
  unfold mTake
  split
  · exact h.send DBl.nil
  · split
    · exact (h.set (p := mFollow m p) (by unfold mFollow; dsimp only; rw [mFresh_log]; exact hp)).send DBl.nil
    · exact ((h.set (p := mTaken m p) h2).choose h2).send DBl.nil
def TakeOk (m : GMsg) (p : GPeer) : Prop := p.Term ≤ m.Term → m.A ≤ (p.Log.length : Int) → termAt p.Log m.A = m.B →
  0 ≤ mnx (takeL m.Log p.Log m.A).2 m.C p.Commit ∧ mnx (takeL m.Log p.Log m.A).2 m.C p.Commit ≤ ((takeL m.Log p.Log m.A).1.length : Int) ∧ (takeL m.Log p.Log m.A).1.length ≤ 1000
theorem take_m {c : GCluster} {m : GMsg} {i : Nat} {p : GPeer} (hp : c.Peers[i]? = some p) (ht : m.To = (i : Int)) (ha : 0 ≤ m.A) (ha2 : m.A ≤ 1000000) (hl : p.Log.length ≤ 1000) (hm : m.Log.length ≤ 1000) (hr : ∀ r ∈ m.Log, 1 ≤ r.Index ∧ r.Index ≤ 1000000)
    (hd : DBl p.Log) (hdm : DBl m.Log) (hc : c.Chosen.length ≤ 100000) (hk : TakeOk m p) :
    f_impl_Cluster_take c m { Kind := 0, From := m.To, To := m.From, Term := 0, A := 0, B := 0, C := 0, Ok := false, Log := [] } = some (mTake c m i p) := by
  have hi : i < c.Peers.length := (List.getElem?_eq_some_iff.1 hp).1
  unfold f_impl_Cluster_take
  rw [ht, idx_some hp, obind_some, ← ht]
  by_cases h1 : m.Term < p.Term
  · rw [if_pos h1, send_m (by simp) DBl.nil, obind_some]
    unfold mTake mBack; rw [if_pos h1]
  · rw [if_neg h1]
    have e : (if p.Term < m.Term then f_impl_Cluster_take_J0 m c { Kind := 0, From := m.To, To := m.From, Term := 0, A := 0, B := 0, C := 0, Ok := false, Log := [] } (setI c.Peers m.To { p with Term := m.Term, Vote := 0 }) else f_impl_Cluster_take_J0 m c { Kind := 0, From := m.To, To := m.From, Term := 0, A := 0, B := 0, C := 0, Ok := false, Log := [] } c.Peers)
        = f_impl_Cluster_take_J0 m c { Kind := 0, From := m.To, To := m.From, Term := 0, A := 0, B := 0, C := 0, Ok := false, Log := [] } (c.Peers.set i (mFresh m p)) := by
      unfold mFresh
      by_cases h2 : p.Term < m.Term
      · rw [if_pos h2, if_pos h2, ht]; rfl
      · rw [if_neg h2, if_neg h2, set_self hp]
    refine e.trans ?_
    have hset : ∀ z : GPeer, setI (c.Peers.set i (mFresh m p)) m.To z = c.Peers.set i z := fun z => by
      rw [ht]; show (c.Peers.set i _).set i z = _; rw [List.set_set]
    unfold f_impl_Cluster_take_J0
    rw [ht, idx_some (get_set hp), obind_some, ← ht]
    have hJ : ∀ b, f_impl_Cluster_take_J1 m (c.Peers.set i (mFresh m p)) (mFresh m p) c { Kind := 0, From := m.To, To := m.From, Term := 0, A := 0, B := 0, C := 0, Ok := false, Log := [] } b =
        if b = true then some (mSend { c with Peers := c.Peers.set i (mFollow m p) } (mBack m (mFresh m p).Term (if (p.Log.length : Int) < (m.A - 1) then (p.Log.length : Int) else (m.A - 1)) false))
        else f_impl_Cluster_take_L2 m c { Kind := 0, From := m.To, To := m.From, Term := 0, A := 0, B := 0, C := 0, Ok := false, Log := [] } (mFresh m p) BIG m.A 0 (c.Peers.set i (mFollow m p)) := by
      intro b
      unfold f_impl_Cluster_take_J1
      by_cases hb : b = true
      · rw [if_pos hb, if_pos hb, chk_pos (by omega), send_m (by simp) DBl.nil, obind_some, hset]
        unfold mFollow mBack
        simp only [mFresh_log]
      · rw [if_neg hb, if_neg hb, hset]
        rfl
    unfold mTake
    rw [if_neg h1]
    by_cases h3 : (p.Log.length : Int) < m.A
    · rw [if_pos (by rw [mFresh_log]; exact h3), hJ, if_pos rfl, if_pos (Or.inl h3)]
    · rw [if_neg (by rw [mFresh_log]; exact h3), term_m ha (by show _ ≤ ((mFresh m p).Log.length : Int); rw [mFresh_log]; omega) (by show (mFresh m p).Log.length ≤ _; rw [mFresh_log]; omega), obind_some, hJ]
      dsimp only
      rw [mFresh_log]
      by_cases h4 : termAt p.Log m.A = m.B
      · rw [if_neg (by rw [decide_eq_true h4]; decide), if_neg (fun h => h.elim h3 (fun h => h h4))]
        obtain ⟨k1, k2, k3⟩ := hk (by omega) (by omega) h4
        have hf : mFollow m p = { mFollow m p with Log := p.Log } := by unfold mFollow; dsimp only; rw [mFresh_log]
        rw [hf]
        have := take_L2 (m := m) (rep := { Kind := 0, From := m.To, To := m.From, Term := 0, A := 0, B := 0, C := 0, Ok := false, Log := [] }) (c := c) (p1 := mFresh m p) (q := mFollow m p) (xs := c.Peers) hi ht hr hm _ BIG 0 p.Log m.A rfl (by rw [BIG_eq]; omega) (by omega) (by omega)
        rw [List.drop_zero] at this
        refine this.trans ?_
        have hq : (mFollow m p).Commit = p.Commit := by unfold mFollow; dsimp only; rw [mFresh_commit]
        have hch := choose_m (c := { c with Peers := c.Peers.set i (mTaken m p) }) (i := i) (p := mTaken m p) (get_set hp) k1 k2 k3 (takeL_all _ _ _ hdm hd) hc
        rw [hq]
        refine (congrArg (fun o => Option.bind o (fun d => (f_impl_Cluster_send d { Kind := 4, From := m.To, To := m.From, Term := (mFresh m p).Term, A := (takeL m.Log p.Log m.A).2, B := 0, C := 0, Ok := true, Log := [] }).bind some)) hch).trans ?_
        rw [obind_some, send_m (by simp) DBl.nil, obind_some]
        rfl
      · rw [if_pos (by rw [decide_eq_false h4]; rfl), if_pos (Or.inr h4)]
structure PeerOk (n : Nat) (p : GPeer) : Prop where
  com0 : 0 ≤ p.Commit
  com1 : p.Commit ≤ (p.Log.length : Int)
  logl : p.Log.length ≤ 1000
  term0 : 0 ≤ p.Term
  votes : p.Votes.length ≤ 1000
  mat : p.Match.length ≤ 1000
  cand : p.Role = 1 → p.Votes.length = n
  lead : p.Role = 2 → NextOk n p
  mlen : p.Role = 2 → p.Match.length = n
  mall : p.Role = 2 → ∀ x ∈ p.Match, 0 ≤ x ∧ x ≤ (p.Log.length : Int)
structure MsgOk (n : Nat) (m : GMsg) : Prop where
  frm : 0 ≤ m.From ∧ m.From < n
  to : 0 ≤ m.To ∧ m.To < n
  a : 0 ≤ m.A ∧ m.A ≤ 1000000
  logl : m.Log.length ≤ 1000
  recs : ∀ r ∈ m.Log, 1 ≤ r.Index ∧ r.Index ≤ 1000000
def AckOk (m : GMsg) (p : GPeer) : Prop := m.Kind = 4 → p.Role = 2 → m.Term = p.Term → m.A ≤ (p.Log.length : Int)
def mNewer (m : GMsg) (p : GPeer) : GPeer := if p.Term < m.Term then { p with Term := m.Term, Vote := 0, Role := 0, Votes := [], Next := [], Match := [] } else p
def mGrant (m : GMsg) (p : GPeer) : Bool :=
  decide (m.Term = p.Term ∧ (p.Vote = 0 ∨ p.Vote = m.From + 1) ∧ (termAt p.Log p.Log.length < m.B ∨ (m.B = termAt p.Log p.Log.length ∧ (p.Log.length : Int) ≤ m.A)))
def mVoted (m : GMsg) (p : GPeer) : GPeer := if mGrant m p = true then { p with Vote := m.From + 1 } else p
def mHeard (m : GMsg) (p : GPeer) : GPeer := { p with Votes := p.Votes.set m.From.toNat true }
def mAcked (m : GMsg) (p : GPeer) (nx mt : Int) : GPeer :=
  { p with Next := p.Next.set m.From.toNat (if (m.A + 1) > nx then (m.A + 1) else nx), Match := p.Match.set m.From.toNat (if m.A > mt then m.A else mt) }
def mNaked (m : GMsg) (p : GPeer) (mt : Int) : GPeer :=
  { p with Next := p.Next.set m.From.toNat (if (m.A + 1) > (mt + 1) then (m.A + 1) else (mt + 1)) }
def atI (l : List Int) (i : Int) : Int := l[i.toNat]?.getD 0
def mArr (c : GCluster) (m : GMsg) (i : Nat) (p : GPeer) : GCluster :=
  if m.Kind = 1 then mSend { c with Peers := c.Peers.set i (mVoted m p) } { Kind := 2, From := m.To, To := m.From, Term := p.Term, A := 0, B := 0, C := 0, Ok := mGrant m p, Log := [] }
  else if m.Kind = 2 then (if m.Term = p.Term ∧ p.Role = 1 ∧ m.Ok = true then mElect { c with Peers := c.Peers.set i (mHeard m p) } i (mHeard m p) else c)
  else if m.Kind = 3 then mTake c m i p
  else if m.Kind = 4 then
    if m.Term = p.Term ∧ p.Role = 2 then
      if m.Ok = true then mCommit { c with Peers := c.Peers.set i (mAcked m p (atI p.Next m.From) (atI p.Match m.From)) } i (mAcked m p (atI p.Next m.From) (atI p.Match m.From))
      else if m.A + 1 < atI p.Next m.From then mRecords { c with Peers := c.Peers.set i (mNaked m p (atI p.Match m.From)) } i (mNaked m p (atI p.Match m.From)) m.From.toNat
      else c
    else c
  else c
end Go.Proofs.YtlpcdcpcfeaecaaAb
end
section
namespace Go.Proofs.YtlpcdcpcfeaecaaAb
open Go
theorem arr_grant {m : GMsg} {c : GCluster} {xs : List GPeer} {p : GPeer} (hl : p.Log.length ≤ 1000) (hf : 0 ≤ m.From ∧ m.From ≤ 1000) :
    (f_impl_Peer_last_elem0 p).bind (fun x323 =>
    if m.Term = p.Term then
      if p.Vote = 0 then
        if x323.2 < m.B then f_impl_Cluster_arrive_J1 m c p xs true
        else if m.B = x323.2 then f_impl_Cluster_arrive_J1 m c p xs (decide (x323.1 ≤ m.A)) else f_impl_Cluster_arrive_J1 m c p xs false
      else
        chk (-9223372036854775808 ≤ m.From + 1 ∧ m.From + 1 < 9223372036854775808) <|
        if p.Vote = (m.From + 1) then
          if x323.2 < m.B then f_impl_Cluster_arrive_J1 m c p xs true
          else if m.B = x323.2 then f_impl_Cluster_arrive_J1 m c p xs (decide (x323.1 ≤ m.A)) else f_impl_Cluster_arrive_J1 m c p xs false
        else f_impl_Cluster_arrive_J1 m c p xs false
    else f_impl_Cluster_arrive_J1 m c p xs false) = f_impl_Cluster_arrive_J1 m c p xs (mGrant m p) := by
  rw [last_m (by omega), obind_some, chk_pos (by omega)]
  unfold mGrant
  by_cases h1 : m.Term = p.Term
  · by_cases h2 : p.Vote = 0
    · by_cases h3 : termAt p.Log p.Log.length < m.B
      · simp [h1, h2, h3]
      · by_cases h4 : m.B = termAt p.Log p.Log.length
        · simp [h1, h2, h4]
        · simp [h1, h2, h3, h4]
    · by_cases h5 : p.Vote = m.From + 1
      · by_cases h3 : termAt p.Log p.Log.length < m.B
        · simp [h1, h2, h3, h5]
        · by_cases h4 : m.B = termAt p.Log p.Log.length
          · simp [h1, h2, h4, h5]
          · simp [h1, h2, h3, h4, h5]
      · simp [h1, h2, h5]
  · simp [h1]
theorem arr_J1 {m : GMsg} {c : GCluster} {xs : List GPeer} {p : GPeer} {i : Nat} (hp : xs[i]? = some p) (ht : m.To = (i : Int)) (hf : 0 ≤ m.From ∧ m.From ≤ 1000) (b : Bool) :
    f_impl_Cluster_arrive_J1 m c p xs b = some (mSend { c with Peers := xs.set i (if b = true then { p with Vote := m.From + 1 } else p) } { Kind := 2, From := m.To, To := m.From, Term := p.Term, A := 0, B := 0, C := 0, Ok := b, Log := [] }) := by
  unfold f_impl_Cluster_arrive_J1 f_impl_Cluster_arrive_J2
  cases b
  · rw [if_neg (by decide), if_neg (by decide), send_m (by simp) DBl.nil, obind_some, set_self hp]
  · rw [if_pos rfl, if_pos rfl, chk_pos (by omega), send_m (by simp) DBl.nil, obind_some, ht]; rfl
theorem atI_get {l : List Int} {f : Nat} (h : f < l.length) : l[f]? = some (atI l (f : Int)) := by
  unfold atI; rw [Int.toNat_natCast, List.getElem?_eq_getElem h]; rfl
theorem arr_m {m : GMsg} {c : GCluster} {xs : List GPeer} {p : GPeer} {i : Nat} (hn : xs.length ≤ 1000) (hp : xs[i]? = some p) (ht : m.To = (i : Int)) (hm : MsgOk xs.length m) (hpo : PeerOk xs.length p) (hk : TakeOk m p) (ha : AckOk m p)
    (hd : DBl p.Log) (hdm : DBl m.Log) (hc : c.Chosen.length ≤ 100000) : f_impl_Cluster_arrive_J0 m c xs = some (mArr { c with Peers := xs } m i p) := by
  have hi : i < xs.length := (List.getElem?_eq_some_iff.1 hp).1
  obtain ⟨f1, f2⟩ := hm.frm
  obtain ⟨a1, a2⟩ := hm.a
  have hl := hpo.logl
  obtain ⟨f, hf⟩ : ∃ f : Nat, m.From = (f : Int) := ⟨m.From.toNat, by omega⟩
  have hfn : m.From.toNat = f := by omega
  unfold f_impl_Cluster_arrive_J0 mArr
  by_cases k1 : m.Kind = 1
  · rw [if_pos k1, if_pos k1, ht, idx_some hp, obind_some, ← ht]
    refine (arr_grant hl ⟨f1, by omega⟩).trans ?_
    rw [arr_J1 hp ht ⟨f1, by omega⟩]; rfl
  rw [if_neg k1, if_neg k1]
  by_cases k2 : m.Kind = 2
  · rw [if_pos k2, if_pos k2, ht, idx_some hp, obind_some]
    have hJ : ∀ b : Bool, f_impl_Cluster_arrive_J3 xs m c b = if b = true then (idx xs m.To).bind (fun x696 => (idx x696.Votes m.From).bind fun x717 =>
        (f_impl_Cluster_elect ({ Peers := (setI xs m.To ({ x696 with Votes := (setI x696.Votes m.From true) } : GPeer)), Net := c.Net, Chosen := c.Chosen, Conflict := c.Conflict } : GCluster) m.To).bind some) else some { c with Peers := xs } := fun b => by
      unfold f_impl_Cluster_arrive_J3; rfl
    by_cases h1 : m.Term = p.Term
    · rw [if_pos h1]
      by_cases h2 : p.Role = 1
      · rw [if_pos h2, hJ]
        by_cases h3 : m.Ok = true
        · rw [if_pos h3, if_pos ⟨h1, h2, h3⟩, ht, idx_some hp, obind_some, hf, idx_nat (by rw [hpo.cand h2]; omega), obind_some]
          have := elect_m (c := { c with Peers := xs.set i (mHeard m p) }) (i := i) (p := mHeard m p) (get_set hp) (by simp; omega) (by unfold mHeard; simp; have := hpo.votes; omega) hpo.com0 hpo.com1 hl hd hc
          have e : mHeard m p = { p with Votes := setI p.Votes (f : Int) true } := by unfold mHeard setI; rw [hfn]; rfl
          rw [e] at this ⊢
          refine (congrArg (fun o => Option.bind o some) this).trans ?_
          rfl
        · rw [if_neg h3, if_neg (fun h => h3 h.2.2)]
      · rw [if_neg h2, hJ, if_neg (by decide), if_neg (fun h => h2 h.2.1)]
    · rw [if_neg h1, hJ, if_neg (by decide), if_neg (fun h => h1 h.1)]
  rw [if_neg k2, if_neg k2]
  by_cases k3 : m.Kind = 3
  · rw [if_pos k3, if_pos k3]
    have := take_m (c := { c with Peers := xs }) (m := m) (i := i) hp ht a1 a2 hl hm.logl hm.recs hd hdm hc hk
    refine (congrArg (fun o => Option.bind o some) this).trans ?_
    rfl
  rw [if_neg k3, if_neg k3]
  by_cases k4 : m.Kind = 4
  · rw [if_pos k4, if_pos k4, ht, idx_some hp, obind_some]
    by_cases h1 : m.Term = p.Term
    · rw [if_pos h1]
      by_cases h2 : p.Role = 2
      · rw [if_pos ⟨h1, h2⟩]
        have hle := ha k4 h2 h1
        obtain ⟨n1, n2⟩ := hpo.lead h2
        have hnx : p.Next[f]? = some (atI p.Next m.From) := by rw [hf]; exact atI_get (by rw [n1]; omega)
        have hmt : p.Match[f]? = some (atI p.Match m.From) := by rw [hf]; exact atI_get (by rw [hpo.mlen h2]; omega)
        unfold f_impl_Cluster_arrive_J4
        rw [if_neg (by rw [decide_eq_true h2]; decide)]
        by_cases h3 : m.Ok = true
        · rw [if_pos h3, if_pos h3, ht, idx_some hp, obind_some]
          have q1 : idx p.Match m.From = some (atI p.Match m.From) := by conv => lhs; rw [hf]
                                                                         exact idx_some hmt
          have q2 : idx p.Next m.From = some (atI p.Next m.From) := by conv => lhs; rw [hf]
                                                                       exact idx_some hnx
          rw [q1, obind_some, q2, obind_some, chk_pos (by omega), obind_some, obind_some]
          have := commit_m (c := { c with Peers := xs.set i (mAcked m p (atI p.Next m.From) (atI p.Match m.From)) }) (i := i) (p := mAcked m p (atI p.Next m.From) (atI p.Match m.From)) (get_set hp) hpo.com0 hpo.com1 hl (by unfold mAcked; simp; have := hpo.mat; omega) (by simp; omega) hd hc
          refine (congrArg (fun o => Option.bind o some) this).trans ?_
          rfl
        · rw [if_neg h3, if_neg h3, chk_pos (by omega), ht, idx_some hp, obind_some]
          have q1 : idx p.Match m.From = some (atI p.Match m.From) := by conv => lhs; rw [hf]
                                                                         exact idx_some hmt
          have q2 : idx p.Next m.From = some (atI p.Next m.From) := by conv => lhs; rw [hf]
                                                                       exact idx_some hnx
          rw [q2, obind_some]
          by_cases h5 : m.A + 1 < atI p.Next m.From
          · have hm5 := hpo.mall h2 _ (List.mem_of_getElem? hmt)
            rw [if_pos h5, if_pos h5, q1, obind_some, chk_pos (by omega), chk_pos (by omega), obind_some]
            have := records_m (c := { c with Peers := xs.set i (mNaked m p (atI p.Match m.From)) }) (i := i) (t := f) (p := mNaked m p (atI p.Match m.From)) (nx := (if (m.A + 1) > (atI p.Match m.From + 1) then (m.A + 1) else (atI p.Match m.From + 1))) (get_set hp)
              (by unfold mNaked; dsimp only; rw [hfn]; exact List.getElem?_set_self (by rw [n1]; omega)) (by split <;> omega) (by show _ ≤ (p.Log.length : Int) + 1; split <;> omega) (by show p.Log.length ≤ _; omega) hd
            rw [hfn]
            rw [← hf] at this
            refine (congrArg (fun o => Option.bind o some) this).trans ?_
            rfl
          · rw [if_neg h5, if_neg h5]
      · rw [if_neg (fun h => h2 h.2)]
        unfold f_impl_Cluster_arrive_J4
        rw [if_pos (by rw [decide_eq_false h2]; rfl)]
    · rw [if_neg h1, if_neg (fun h => h1 h.1)]
      unfold f_impl_Cluster_arrive_J4
      rw [if_pos rfl]
  · rw [if_neg k4, if_neg k4]
theorem mNewer_log {m : GMsg} {p : GPeer} : (mNewer m p).Log = p.Log := by unfold mNewer; split <;> rfl
theorem mNewer_ok {m : GMsg} {p : GPeer} {n : Nat} (h : PeerOk n p) : PeerOk n (mNewer m p) := by
  unfold mNewer
  split
  · next ht => exact ⟨h.com0, h.com1, h.logl, by show 0 ≤ m.Term; have := h.term0; omega, Nat.zero_le _, Nat.zero_le _, (fun hh => nomatch hh), (fun hh => nomatch hh), (fun hh => nomatch hh), (fun hh => nomatch hh)⟩
  · exact h
def mArrive (c : GCluster) (m : GMsg) : GCluster :=
  match c.Peers[m.To.toNat]? with
  | none => c
  | some p => if p.Up = true then mArr (if p.Term < m.Term then { c with Peers := c.Peers.set m.To.toNat (mNewer m p) } else c) m m.To.toNat (mNewer m p) else c
theorem arrive_m {m : GMsg} {c : GCluster} {p : GPeer} (hn : c.Peers.length ≤ 1000) (hp : c.Peers[m.To.toNat]? = some p) (hm : MsgOk c.Peers.length m) (hpo : PeerOk c.Peers.length p) (hk : TakeOk m (mNewer m p)) (ha : AckOk m (mNewer m p))
    (hd : DBl p.Log) (hdm : DBl m.Log) (hc : c.Chosen.length ≤ 100000) : f_impl_Cluster_arrive c m = some (mArrive c m) := by
  obtain ⟨t1, t2⟩ := hm.to
  have ht : m.To = (m.To.toNat : Int) := by omega
  unfold f_impl_Cluster_arrive mArrive
  rw [hp]
  have hpi : idx c.Peers m.To = some p := by rw [ht]; exact idx_some hp
  rw [hpi, obind_some]
  dsimp only
  cases hu : p.Up
  · rw [if_pos (by decide), if_neg (by decide)]
  · rw [if_neg (by decide), if_pos rfl]
    by_cases h1 : p.Term < m.Term
    · rw [if_pos h1, if_pos h1, if_pos h1]
      unfold f_impl_Cluster_arrive_J5
      have hg : idx (setI c.Peers m.To ({ Up := p.Up, Term := m.Term, Vote := 0, Commit := p.Commit, Role := p.Role, Log := p.Log, Votes := p.Votes, Next := p.Next, Match := p.Match } : GPeer)) m.To = some { p with Term := m.Term, Vote := 0 } := by
        rw [ht]; exact idx_some (get_set hp)
      rw [← hu, hg, obind_some]
      have e : setI (setI c.Peers m.To ({ Up := p.Up, Term := m.Term, Vote := 0, Commit := p.Commit, Role := p.Role, Log := p.Log, Votes := p.Votes, Next := p.Next, Match := p.Match } : GPeer)) m.To ({ Up := p.Up, Term := m.Term, Vote := 0, Commit := p.Commit, Role := 0, Log := p.Log, Votes := [], Next := [], Match := [] } : GPeer) = c.Peers.set m.To.toNat (mNewer m p) := by
        unfold mNewer setI; rw [if_pos h1, List.set_set]
      rw [show f_impl_Cluster_arrive_J0 m c (setI _ m.To _) = _ from congrArg _ e]
      refine arr_m (by simp; omega) (get_set hp) ht (by simpa using hm) ?_ hk ha (by rw [mNewer_log]; exact hd) hdm hc
      simpa using mNewer_ok hpo
    · rw [if_neg h1, if_neg h1]
      have e : mNewer m p = p := by unfold mNewer; rw [if_neg h1]
      rw [e] at hk ha ⊢
      exact arr_m hn hp ht hm hpo hk ha hd hdm hc
end Go.Proofs.YtlpcdcpcfeaecaaAb
end
section
namespace Go.Proofs.YtlpcdcpcfeaecaaAb
open Go
theorem DBc.arr {c : GCluster} {m : GMsg} {i : Nat} {p : GPeer} (h : DBc c) (hm : DBl m.Log) (hp : DBl p.Log) : DBc (mArr c m i p) := by
  unfold mArr
  repeat' split
  · refine (h.set ?_).send DBl.nil
    unfold mVoted; split <;> exact hp
  · exact (h.set (p := mHeard m p) hp).elect hp
  · exact h
  · exact h.take hm hp
  · exact (h.set (p := mAcked m p (atI p.Next m.From) (atI p.Match m.From)) hp).commit hp
  · exact (h.set (p := mNaked m p (atI p.Match m.From)) hp).records hp
  · exact h
  · exact h
  · exact h
theorem DBc.arrive {c : GCluster} {m : GMsg} (h : DBc c) (hm : DBl m.Log) : DBc (mArrive c m) := by
  unfold mArrive
  split
  · exact h
  · next p hp =>
    have hd : DBl p.Log := h.peers p (List.mem_of_getElem? hp)
    split
    · refine DBc.arr ?_ hm (by rw [mNewer_log]; exact hd)
      split
      · exact h.set (by rw [mNewer_log]; exact hd)
      · exact h
    · exact h
def mCut (c : GCluster) (i : Nat) : GCluster := { c with Net := c.Net.take i ++ c.Net.drop (i + 1) }
def mDown (p : GPeer) : GPeer := { Up := false, Term := p.Term, Vote := p.Vote, Commit := 0, Role := 0, Log := p.Log, Votes := [], Next := [], Match := [] }
def mGrown (i : Nat) (p : GPeer) (d : List UInt8) : GPeer :=
  { p with Log := p.Log ++ [{ Term := p.Term, Index := (p.Log.length : Int) + 1, Data := d }], Match := p.Match.set i ((p.Log.length : Int) + 1) }
def mPropose (c : GCluster) (i : Nat) (p : GPeer) (d : List UInt8) : GCluster := mCommit { c with Peers := c.Peers.set i (mGrown i p d) } i (mGrown i p d)
def mNetEv (c : GCluster) (k : Int) (i : Nat) : GCluster × Int :=
  match c.Net[i]? with
  | none => (c, 6)
  | some m => if k = 4 then (mSend c m, 0) else if k = 2 then (mArrive (mCut c i) m, 0) else (mCut c i, 0)
def mPeerEv (c : GCluster) (e : GEvent) (i : Nat) : GCluster × Int :=
  match c.Peers[i]? with
  | none => (c, 6)
  | some p =>
    if p.Up = decide (e.Kind = 6) then (c, 15)
    else if e.Kind = 1 then (mTick c i p, 0)
    else if e.Kind = 5 then ({ c with Peers := c.Peers.set i (mDown p) }, 0)
    else if e.Kind = 6 then ({ c with Peers := c.Peers.set i { p with Up := true } }, 0)
    else if p.Role = 2 then (if 1000 < (e.Data.length : Int) ∨ 100 ≤ (p.Log.length : Int) then (c, 14) else (mPropose c i p e.Data, 0))
    else (c, 15)
def mEvent (c : GCluster) (e : GEvent) : GCluster × Int :=
  if e.Kind = 2 ∨ e.Kind = 3 ∨ e.Kind = 4 then
    if 0 ≤ e.N ∧ e.N ≤ (c.Net.length : Int) - 1 then mNetEv c e.Kind e.N.toNat else (c, 6)
  else if e.Kind = 1 ∨ e.Kind = 5 ∨ e.Kind = 6 ∨ e.Kind = 7 then
    if 0 ≤ e.N ∧ e.N ≤ (c.Peers.length : Int) - 1 then mPeerEv c e e.N.toNat else (c, 6)
  else (c, 3)
structure ClOk (c : GCluster) : Prop where
  n : c.Peers.length ≤ 1000
  net : c.Net.length ≤ 1000
  chosen : c.Chosen.length ≤ 100000
  peers : ∀ p ∈ c.Peers, PeerOk c.Peers.length p
  msgs : ∀ m ∈ c.Net, MsgOk c.Peers.length m
def EvOk (c : GCluster) (e : GEvent) : Prop := e.Kind = 2 → ∀ m, c.Net[e.N.toNat]? = some m → ∀ p, c.Peers[m.To.toNat]? = some p → TakeOk m (mNewer m p) ∧ AckOk m (mNewer m p)
theorem event_J1 {c : GCluster} {e : GEvent} (h : ClOk c) (hd : DBc c) (b : Bool) (hb : b = decide (e.Kind = 1 ∨ e.Kind = 5 ∨ e.Kind = 6 ∨ e.Kind = 7)) :
    f_impl_Cluster_event_J1 c e b = some (if e.Kind = 1 ∨ e.Kind = 5 ∨ e.Kind = 6 ∨ e.Kind = 7 then
    if 0 ≤ e.N ∧ e.N ≤ (c.Peers.length : Int) - 1 then mPeerEv c e e.N.toNat else (c, 6)
  else (c, 3)) := by
  have hn := h.n
  unfold f_impl_Cluster_event_J1
  subst hb
  by_cases k : e.Kind = 1 ∨ e.Kind = 5 ∨ e.Kind = 6 ∨ e.Kind = 7
  · rw [if_pos (by rw [decide_eq_true k]), if_pos k, chk_pos (by omega), within_l, obind_some]
    by_cases hN : 0 ≤ e.N ∧ e.N ≤ (c.Peers.length : Int) - 1
    · rw [if_neg (by rw [decide_eq_true hN]; decide), if_pos hN]
      have hi : e.N.toNat < c.Peers.length := by omega
      have hp : c.Peers[e.N.toNat]? = some c.Peers[e.N.toNat] := List.getElem?_eq_getElem hi
      have hmem := List.getElem_mem hi
      generalize c.Peers[e.N.toNat] = p at hp hmem
      have hNN : e.N = (e.N.toNat : Int) := by omega
      have hpi : idx c.Peers e.N = some p := by rw [hNN]; exact idx_some hp
      rw [hpi, obind_some]
      unfold mPeerEv
      rw [hp]
      dsimp only
      have hpo := h.peers p hmem
      have hdl := hd.peers p hmem
      have hl := hpo.logl
      by_cases hu : p.Up = decide (e.Kind = 6)
      · rw [if_pos (by rw [hu]; simp), if_pos hu]
      · rw [if_neg (by simpa using hu), if_neg hu]
        by_cases k1 : e.Kind = 1
        · rw [if_pos k1, if_pos k1]
          have := tick_m hp hn hpo.lead hpo.term0 hpo.com0 hpo.com1 hl hdl h.chosen
          rw [← hNN] at this
          refine (congrArg (fun o => Option.bind o (fun x : GCluster => some (x, (0 : Int)))) this).trans ?_
          rfl
        rw [if_neg k1, if_neg k1]
        by_cases k5 : e.Kind = 5
        · rw [if_pos k5, if_pos k5]; rfl
        rw [if_neg k5, if_neg k5]
        by_cases k6 : e.Kind = 6
        · rw [if_pos k6, if_pos k6]; rfl
        have k7 : e.Kind = 7 := by omega
        rw [if_neg k6, if_neg k6, if_pos k7]
        by_cases hr : p.Role = 2
        · rw [if_pos hr, if_pos hr]
          unfold f_impl_Cluster_event_J2
          by_cases hb1 : 1000 < (e.Data.length : Int)
          · rw [if_pos hb1, if_pos rfl, if_pos (Or.inl hb1)]
          rw [if_neg hb1]
          by_cases hb2 : 100 ≤ (p.Log.length : Int)
          · rw [if_pos (by rw [decide_eq_true hb2]), if_pos (Or.inr hb2)]
          rw [if_neg (by rw [decide_eq_false hb2]; decide), if_neg (fun hh => hh.elim hb1 hb2), chk_pos (by omega), clone_b (by omega), obind_some, chk_pos (by simp; omega)]
          have hmt : idx p.Match e.N = some (atI p.Match e.N) := by
            conv => lhs; rw [hNN]
            rw [hNN]; exact idx_some (atI_get (by rw [hpo.mlen hr]; exact hi))
          rw [hmt, obind_some]
          have hg : (mGrown e.N.toNat p e.Data).Log.length = p.Log.length + 1 := by unfold mGrown; simp
          have hdg : DBl (mGrown e.N.toNat p e.Data).Log := fun r hr => by
            rcases List.mem_append.1 hr with hr | hr
            · exact hdl r hr
            · rw [List.mem_singleton.1 hr]; show e.Data.length ≤ 1000; omega
          have := commit_m (c := { c with Peers := c.Peers.set e.N.toNat (mGrown e.N.toNat p e.Data) }) (i := e.N.toNat) (p := mGrown e.N.toNat p e.Data) (get_set hp) hpo.com0 (by rw [hg]; have := hpo.com1; show p.Commit ≤ _; omega) (by omega) (by unfold mGrown; simp; exact hpo.mat) (by simp; omega) hdg h.chosen
          rw [← hNN] at this
          have e3 : ((p.Log ++ ([({ Term := p.Term, Index := ((p.Log.length : Int) + 1), Data := e.Data } : GRec)] : List GRec)).length : Int) = (p.Log.length : Int) + 1 := by simp
          rw [e3]
          refine (congrArg (fun o => Option.bind o (fun x : GCluster => some (x, (0 : Int)))) this).trans ?_
          rfl
        · rw [if_neg hr, if_neg hr]
    · rw [if_pos (by rw [decide_eq_false hN]; rfl), if_neg hN]
  · rw [if_neg (by rw [decide_eq_false k]; decide), if_neg k]
end Go.Proofs.YtlpcdcpcfeaecaaAb
end
section
namespace Go.Proofs.YtlpcdcpcfeaecaaAb
open Go
theorem event_J0 {c : GCluster} {e : GEvent} (h : ClOk c) (hd : DBc c) (hk : EvOk c e) (b : Bool) (hb : b = decide (e.Kind = 2 ∨ e.Kind = 3 ∨ e.Kind = 4)) :
    f_impl_Cluster_event_J0 c e b = some (mEvent c e) := by
  have hn := h.net
  unfold f_impl_Cluster_event_J0 mEvent
  subst hb
  by_cases k : e.Kind = 2 ∨ e.Kind = 3 ∨ e.Kind = 4
  · rw [if_pos (by rw [decide_eq_true k]), if_pos k, chk_pos (by omega), within_l, obind_some]
    by_cases hN : 0 ≤ e.N ∧ e.N ≤ (c.Net.length : Int) - 1
    · rw [if_neg (by rw [decide_eq_true hN]; decide), if_pos hN]
      have hi : e.N.toNat < c.Net.length := by omega
      have hp : c.Net[e.N.toNat]? = some c.Net[e.N.toNat] := List.getElem?_eq_getElem hi
      have hmem := List.getElem_mem hi
      generalize c.Net[e.N.toNat] = m at hp hmem
      have hNN : e.N = (e.N.toNat : Int) := by omega
      have hpi : idx c.Net e.N = some m := by rw [hNN]; exact idx_some hp
      rw [hpi, obind_some]
      unfold mNetEv
      rw [hp]
      dsimp only
      have hmo := h.msgs m hmem
      have hdm := hd.net m hmem
      have hl := hmo.logl
      by_cases k4 : e.Kind = 4
      · rw [if_pos k4, if_pos k4]
        refine (congrArg (fun o => Option.bind o (fun x : GCluster => some (x, (0 : Int)))) (send_m (c := c) (m := m) (by omega) hdm)).trans ?_
        rfl
      · rw [if_neg k4, if_neg k4, chk_pos (by omega)]
        unfold f_slices_Delete_implMsg
        rw [chk_pos ⟨hN.1, rfl, by omega⟩, obind_some]
        by_cases k2 : e.Kind = 2
        · rw [if_pos k2, if_pos k2]
          have hti : m.To.toNat < c.Peers.length := by have := hmo.to; omega
          have hpp : c.Peers[m.To.toNat]? = some c.Peers[m.To.toNat] := List.getElem?_eq_getElem hti
          obtain ⟨ho1, ho2⟩ := hk k2 m hp _ hpp
          have := arrive_m (m := m) (c := mCut c e.N.toNat) h.n hpp hmo (h.peers _ (List.getElem_mem hti)) ho1 ho2 (hd.peers _ (List.getElem_mem hti)) hdm h.chosen
          refine (congrArg (fun o => Option.bind o (fun x : GCluster => some (x, (0 : Int)))) this).trans ?_
          rfl
        · rw [if_neg k2, if_neg k2]; rfl
    · rw [if_pos (by rw [decide_eq_false hN]; rfl), if_neg hN]
  · rw [if_neg (by rw [decide_eq_false k]; decide), if_neg k]
    by_cases k1 : e.Kind = 1
    · rw [if_pos k1]; exact event_J1 h hd _ (by rw [k1]; rfl)
    rw [if_neg k1]
    by_cases k5 : e.Kind = 5
    · rw [if_pos k5]; exact event_J1 h hd _ (by rw [k5]; rfl)
    rw [if_neg k5]
    by_cases k6 : e.Kind = 6
    · rw [if_pos k6]; exact event_J1 h hd _ (by rw [k6]; rfl)
    rw [if_neg k6]
    exact event_J1 h hd _ (by simp [k1, k5, k6])
theorem event_m {c : GCluster} {e : GEvent} (h : ClOk c) (hd : DBc c) (hk : EvOk c e) : f_impl_Cluster_event c e = some (mEvent c e) := by
  unfold f_impl_Cluster_event
  by_cases k2 : e.Kind = 2
  · rw [if_pos k2]; exact event_J0 h hd hk _ (by rw [k2]; rfl)
  rw [if_neg k2]
  by_cases k3 : e.Kind = 3
  · rw [if_pos k3]; exact event_J0 h hd hk _ (by rw [k3]; rfl)
  rw [if_neg k3]
  exact event_J0 h hd hk _ (by simp [k2, k3])
theorem DBc.event {c : GCluster} {e : GEvent} (h : DBc c) : DBc (mEvent c e).1 := by
  unfold mEvent
  split
  · split
    · unfold mNetEv
      split
      · exact h
      · next m hm =>
        have hdm : DBl m.Log := h.net m (List.mem_of_getElem? hm)
        have hcut : DBc (mCut c e.N.toNat) := ⟨h.peers, fun x hx => by
          rcases List.mem_append.1 hx with hx | hx
          · exact h.net x (List.mem_of_mem_take hx)
          · exact h.net x (List.mem_of_mem_drop hx), h.chosen⟩
        split
        · exact h.send hdm
        · split
          · exact hcut.arrive hdm
          · exact hcut
    · exact h
  · split
    · split
      · unfold mPeerEv
        split
        · exact h
        · next p hp =>
          have hdp : DBl p.Log := h.peers p (List.mem_of_getElem? hp)
          split
          · exact h
          split
          · exact h.tick hdp
          split
          · exact h.set (p := mDown p) hdp
          split
          · exact h.set (p := { p with Up := true }) hdp
          split
          · split
            · exact h
            · next hb =>
              have hg : DBl (mGrown e.N.toNat p e.Data).Log := fun r hr => by
                rcases List.mem_append.1 hr with hr | hr
                · exact hdp r hr
                · rw [List.mem_singleton.1 hr]; show e.Data.length ≤ 1000; omega
              exact (h.set hg).commit hg
          · exact h
      · exact h
    · exact h
theorem told_L1 {c : GCluster} {ps : List GPeer} {ch : List GRec} (hn : c.Net.length ≤ 1000) (hd : ∀ m ∈ c.Net, DBl m.Log) (hl : ∀ m ∈ c.Net, m.Log.length ≤ 1000) :
    f_impl_Cluster_told_L1 c ps ch BIG 0 [] = some { c with Peers := ps, Chosen := ch } := by
  have key : ∀ (m k i : Nat) (acc : List GMsg), c.Net.length - i = m → m + 1 ≤ k → i ≤ c.Net.length → acc = c.Net.take i → f_impl_Cluster_told_L1 c ps ch k (i : Int) acc = some { c with Peers := ps, Chosen := ch } := by
    intro m
    induction m with
    | zero =>
      intro k i acc hm hk hi ha
      obtain ⟨k, rfl⟩ : ∃ j, k = j + 1 := ⟨k - 1, by omega⟩
      rw [f_impl_Cluster_told_L1, if_neg (by omega), ha, List.take_of_length_le (by omega)]
    | succ m ih =>
      intro k i acc hm hk hi ha
      obtain ⟨k, rfl⟩ : ∃ j, k = j + 1 := ⟨k - 1, by omega⟩
      have hlt : i < c.Net.length := by omega
      have hmm := List.getElem_mem hlt
      have h1 := hl _ hmm
      have hlen : acc.length = i := by rw [ha, List.length_take]; omega
      rw [f_impl_Cluster_told_L1, if_pos (by omega), idx_nat hlt, obind_some]
      refine (congrArg (fun o => Option.bind o _) (copied_m (m := c.Net[i]) (by omega) (hd _ hmm))).trans ?_
      rw [obind_some, chk_pos (by simp; omega), chk_pos (by omega), show ((i : Int) + 1) = ((i + 1 : Nat) : Int) by omega]
      exact ih k (i + 1) _ (by omega) (by omega) (by omega) (by rw [ha, List.take_succ_eq_append_getElem hlt])
  exact key c.Net.length BIG 0 [] (by omega) (by rw [BIG_eq]; omega) (by omega) (by simp)
theorem told_m {c : GCluster} (hn : c.Net.length ≤ 1000) (hpn : c.Peers.length ≤ 1000) (hd : DBc c) (hl : ∀ m ∈ c.Net, m.Log.length ≤ 1000) (hp : ∀ p ∈ c.Peers, p.Log.length ≤ 1000 ∧ p.Votes.length ≤ 1000 ∧ p.Next.length ≤ 1000 ∧ p.Match.length ≤ 1000) (hc : c.Chosen.length ≤ 100000) :
    f_impl_Cluster_told c = some c := by
  unfold f_impl_Cluster_told
  rw [copyRecs_o (by omega) hd.chosen, obind_some]
  have key : ∀ (m k i : Nat) (acc : List GPeer), c.Peers.length - i = m → m + 1 ≤ k → i ≤ c.Peers.length → acc = c.Peers.take i → f_impl_Cluster_told_L0 c c.Chosen k (i : Int) acc = some c := by
    intro m
    induction m with
    | zero =>
      intro k i acc hm hk hi ha
      obtain ⟨k, rfl⟩ : ∃ j, k = j + 1 := ⟨k - 1, by omega⟩
      rw [f_impl_Cluster_told_L0, if_neg (by omega), ha, List.take_of_length_le (by omega)]
      exact told_L1 hn hd.net hl
    | succ m ih =>
      intro k i acc hm hk hi ha
      obtain ⟨k, rfl⟩ : ∃ j, k = j + 1 := ⟨k - 1, by omega⟩
      have hlt : i < c.Peers.length := by omega
      have hmm := List.getElem_mem hlt
      obtain ⟨h1, h2, h3, h4⟩ := hp _ hmm
      have hlen : acc.length = i := by rw [ha, List.length_take]; omega
      rw [f_impl_Cluster_told_L0, if_pos (by omega), idx_nat hlt, obind_some, copyRecs_o (by omega) (hd.peers _ hmm), obind_some, clone_bool (by omega), obind_some, clone_int (by omega), obind_some, clone_int (by omega), obind_some, chk_pos (by simp; omega), chk_pos (by omega), show ((i : Int) + 1) = ((i + 1 : Nat) : Int) by omega]
      exact ih k (i + 1) _ (by omega) (by omega) (by omega) (by rw [ha, List.take_succ_eq_append_getElem hlt])
  exact key c.Peers.length BIG 0 [] (by omega) (by rw [BIG_eq]; omega) (by omega) (by simp)
end Go.Proofs.YtlpcdcpcfeaecaaAb
end
section
namespace Go.Proofs.YtlpcdcpcfeaecaaAb
open Go
end Go.Proofs.YtlpcdcpcfeaecaaAb
end
section
namespace Go.Proofs.YtlpcdcpcfeaecaaAb
open Go
def tn (l : List GRec) : Nat → Int
  | 0 => 0
  | k + 1 => ((l[k]?).map (·.Term)).getD 0
theorem termAt_nat (l : List GRec) (k : Nat) : termAt l (k : Int) = tn l k := by
  unfold termAt
  cases k with
  | zero => rfl
  | succ k => rw [if_neg (by omega), show (((k + 1 : Nat) : Int) - 1).toNat = k by omega]; rfl
def Pre (k : Nat) (l l' : List GRec) : Prop := k ≤ l.length ∧ k ≤ l'.length ∧ l.take k = l'.take k
theorem Pre.refl {k : Nat} {l : List GRec} (h : k ≤ l.length) : Pre k l l := ⟨h, h, rfl⟩
theorem Pre.symm {k : Nat} {l l' : List GRec} (h : Pre k l l') : Pre k l' l := ⟨h.2.1, h.1, h.2.2.symm⟩
theorem Pre.trans {k : Nat} {l l' l'' : List GRec} (h : Pre k l l') (h' : Pre k l' l'') : Pre k l l'' := ⟨h.1, h'.2.1, h.2.2.trans h'.2.2⟩
theorem Pre.mono {j k : Nat} {l l' : List GRec} (h : Pre k l l') (hj : j ≤ k) : Pre j l l' :=
  ⟨Nat.le_trans hj h.1, Nat.le_trans hj h.2.1, by have := congrArg (List.take j) h.2.2; rwa [List.take_take, List.take_take, Nat.min_eq_left hj] at this⟩
theorem Pre.get {k i : Nat} {l l' : List GRec} (h : Pre k l l') (hi : i < k) : l[i]? = l'[i]? := by
  have := congrArg (fun x => x[i]?) h.2.2
  simpa [List.getElem?_take, hi] using this
theorem Pre.tn {j k : Nat} {l l' : List GRec} (h : Pre k l l') (hj : j ≤ k) : tn l j = tn l' j := by
  cases j with
  | zero => rfl
  | succ j =>
    show ((l[j]?).map (·.Term)).getD 0 = ((l'[j]?).map (·.Term)).getD 0
    rw [h.get (by omega)]
theorem Pre.of_append {k : Nat} {l s : List GRec} (h : k ≤ l.length) : Pre k (l ++ s) l :=
  ⟨by simp; omega, h, by rw [List.take_append_of_le_length h]⟩
theorem Pre.appendL {k : Nat} {l l' s : List GRec} (h : Pre k l l') : Pre k (l ++ s) l' := (Pre.of_append h.1).trans h
theorem Pre.of_take {k m : Nat} {l : List GRec} (h : k ≤ m) (h2 : k ≤ l.length) : Pre k (l.take m) l :=
  ⟨by rw [List.length_take]; omega, h2, by rw [List.take_take, Nat.min_eq_left h]⟩
theorem Pre.zero {l l' : List GRec} : Pre 0 l l' := ⟨Nat.zero_le _, Nat.zero_le _, rfl⟩
noncomputable def cn (l : List Nat) (P : Nat → Prop) : Nat := l.countP (fun v => @decide (P v) (Classical.propDecidable _))
def Maj (n : Nat) (P : Nat → Prop) : Prop := n / 2 + 1 ≤ cn (List.range n) P
theorem cn_mono {P Q : Nat → Prop} : ∀ (l : List Nat), (∀ v ∈ l, P v → Q v) → cn l P ≤ cn l Q := by
  intro l h
  unfold cn
  exact List.countP_mono_left fun v hv hp => by
    have := @of_decide_eq_true _ (Classical.propDecidable _) hp
    exact @decide_eq_true _ (Classical.propDecidable _) (h v hv this)
theorem Maj.mono {n : Nat} {P Q : Nat → Prop} (h : Maj n P) (hq : ∀ v, v < n → P v → Q v) : Maj n Q :=
  Nat.le_trans h (cn_mono _ fun v hv => hq v (List.mem_range.1 hv))
theorem cn_add (P Q : Nat → Prop) : ∀ (l : List Nat), cn l P + cn l Q ≤ l.length + cn l (fun v => P v ∧ Q v)
  | [] => by simp [cn]
  | a :: l => by
    have ih := cn_add P Q l
    unfold cn at ih ⊢
    dsimp only at ih ⊢
    simp only [List.countP_cons, List.length_cons]
    by_cases hp : P a
    · by_cases hq : Q a
      · simp [hp, hq]; omega
      · simp [hp, hq]; omega
    · by_cases hq : Q a
      · simp [hp, hq]; omega
      · simp [hp, hq]; omega
theorem Maj.inter {n : Nat} {P Q : Nat → Prop} (hp : Maj n P) (hq : Maj n Q) : ∃ v, v < n ∧ P v ∧ Q v := by
  have h := cn_add P Q (List.range n)
  unfold Maj at hp hq
  rw [List.length_range] at h
  have h1 : 0 < cn (List.range n) (fun v => P v ∧ Q v) := by omega
  unfold cn at h1
  obtain ⟨v, hv, hv2⟩ := List.countP_pos_iff.1 h1
  exact ⟨v, List.mem_range.1 hv, @of_decide_eq_true _ (Classical.propDecidable _) hv2⟩
theorem cntT_cn : ∀ (l : List Bool), cntT l ≤ cn (List.range l.length) (fun v => l[v]? = some true)
  | [] => by simp [cntT]
  | b :: l => by
    have ih := cntT_cn l
    unfold cntT
    rw [List.length_cons, List.range_succ_eq_map]
    unfold cn at ih ⊢
    rw [List.countP_cons, List.countP_map]
    have e : (List.range l.length).countP ((fun v => @decide ((b :: l)[v]? = some true) (Classical.propDecidable _)) ∘ Nat.succ) = (List.range l.length).countP (fun v => @decide (l[v]? = some true) (Classical.propDecidable _)) := by
      congr 1
    rw [e]
    cases b <;> simp <;> omega
theorem cntGe_cn (n : Int) : ∀ (l : List Int), cntGe n l ≤ cn (List.range l.length) (fun v => ∃ x, l[v]? = some x ∧ n ≤ x)
  | [] => by simp [cntGe]
  | b :: l => by
    have ih := cntGe_cn n l
    unfold cntGe
    rw [List.length_cons, List.range_succ_eq_map]
    unfold cn at ih ⊢
    rw [List.countP_cons, List.countP_map]
    have e : (List.range l.length).countP ((fun v => @decide (∃ x, (b :: l)[v]? = some x ∧ n ≤ x) (Classical.propDecidable _)) ∘ Nat.succ) = (List.range l.length).countP (fun v => @decide (∃ x, l[v]? = some x ∧ n ≤ x) (Classical.propDecidable _)) := by
      congr 1
    rw [e]
    by_cases h : n ≤ b
    · rw [if_pos h]; simp [h]; omega
    · rw [if_neg h]; simp [h]; omega
structure Gh where
  vt : Nat → Int → Int
  ld : Int → Option Nat
  L : Int → List GRec
  cl : Int → Nat → List GRec
  ac : Int → Nat → Nat
  ev : Int → Nat → Prop
structure GoodLog (g : Gh) (t : Int) (l : List GRec) : Prop where
  ent : ∀ k, 1 ≤ k → k ≤ l.length → 1 ≤ tn l k ∧ tn l k ≤ t ∧ Pre k l (g.L (tn l k))
  idx : ∀ (k : Nat) r, l[k]? = some r → r.Index = (k : Int) + 1
  len : l.length ≤ 100
def Ent (g : Gh) (T : Int) (k : Nat) : Prop := 1 ≤ k ∧ k ≤ (g.L T).length ∧ tn (g.L T) k = T
def Com (g : Gh) (n : Nat) (T : Int) (k : Nat) : Prop := Ent g T k ∧ Maj n (fun v => k ≤ g.ac T v)
structure GInv (g : Gh) (n : Nat) : Prop where
  self : ∀ w U c, w < n → g.vt w U = ((c : Nat) : Int) + 1 → c < n ∧ g.vt c U = (c : Int) + 1
  log : ∀ T, GoodLog g T (g.L T)
  none : ∀ T, g.ld T = none → g.L T = []
  ld : ∀ T c, g.ld T = some c → (c < n ∧ 1 ≤ T) ∧ Maj n (fun v => g.ev T v ∧ g.vt v T = (c : Int) + 1)
  evv : ∀ U w, w < n → g.ev U w → g.vt w U ≠ 0
  form : ∀ w U, w < n → g.vt w U ≠ 0 → ∃ c : Nat, g.vt w U = (c : Int) + 1
  early : ∀ w U, w < n → g.vt w U ≠ 0 → g.ld U = .none → g.ev U w
  ac : ∀ T v, g.ac T v ≤ (g.L T).length
  ext : ∀ U c, g.ld U = some c → ∃ s, g.L U = g.cl U c ++ s
  cl : ∀ w U c, w < n → g.vt w U = ((c : Nat) : Int) + 1 → GoodLog g (U - 1) (g.cl U c)
  y : ∀ w U c T k, w < n → g.ev U w → g.vt w U = ((c : Nat) : Int) + 1 → T < U → Ent g T k → k ≤ g.ac T w →
    (∀ U', T < U' → U' < U → g.ld U' ≠ .none → Pre k (g.L U') (g.L T)) → Pre k (g.cl U c) (g.L T)
theorem GoodLog.mono {g : Gh} {t t' : Int} {l : List GRec} (h : GoodLog g t l) (ht : t ≤ t') : GoodLog g t' l :=
  ⟨fun k h1 h2 => by obtain ⟨a, b, c⟩ := h.ent k h1 h2; exact ⟨a, by omega, c⟩, h.idx, h.len⟩
theorem GoodLog.take {g : Gh} {t : Int} {l : List GRec} (h : GoodLog g t l) (m : Nat) : GoodLog g t (l.take m) := by
  refine ⟨fun k h1 h2 => ?_, fun k r hr => ?_, by rw [List.length_take]; have := h.len; omega⟩
  · rw [List.length_take] at h2
    have hp : Pre k (l.take m) l := Pre.of_take (by omega) (by omega)
    obtain ⟨a, b, c⟩ := h.ent k h1 (by omega)
    rw [hp.tn (Nat.le_refl _)]
    exact ⟨a, b, hp.trans c⟩
  · rw [List.getElem?_take] at hr
    split at hr
    · exact h.idx k r hr
    · cases hr
theorem GoodLog.rise {g : Gh} {n : Nat} (hg : GInv g n) {t : Int} {l : List GRec} (h : GoodLog g t l) {j k : Nat} (hj : 1 ≤ j) (hjk : j ≤ k) (hk : k ≤ l.length) : tn l j ≤ tn l k := by
  obtain ⟨a, b, c⟩ := h.ent k (by omega) hk
  have hp := c.mono hjk
  rw [hp.tn (Nat.le_refl _)]
  exact ((hg.log (tn l k)).ent j hj hp.2.1).2.1
theorem leader_complete {g : Gh} {n : Nat} (hg : GInv g n) {T : Int} {k : Nat} (hc : Com g n T k) : ∀ (m : Nat) (U : Int), (U - T).toNat = m → T < U → g.ld U ≠ none → Pre k (g.L U) (g.L T) := by
  intro m
  induction m using Nat.strongRecOn with
  | _ m ih =>
    intro U hm hT hU
    cases hld : g.ld U with
    | none => exact absurd hld hU
    | some c =>
      obtain ⟨hc1, hmaj⟩ := hg.ld U c hld
      obtain ⟨w, hw, hw1, hw2⟩ := hc.2.inter hmaj
      have := hg.y w U c T k hw hw2.1 hw2.2 hT hc.1 hw1 (fun U' h1 h2 h3 => ih (U' - T).toNat (by omega) U' rfl h1 h3)
      obtain ⟨s, hs⟩ := hg.ext U c hld
      rw [hs]; exact this.appendL
theorem com_le {g : Gh} {n : Nat} (hg : GInv g n) {T : Int} {k : Nat} (hc : Com g n T k) {U : Int} (hT : T ≤ U) (hU : g.ld U ≠ none) : Pre k (g.L U) (g.L T) := by
  rcases Int.lt_or_eq_of_le hT with h | rfl
  · exact leader_complete hg hc _ U rfl h hU
  · exact Pre.refl hc.1.2.1
theorem Com.ld {g : Gh} {n : Nat} (hg : GInv g n) {T : Int} {k : Nat} (hc : Com g n T k) : g.ld T ≠ none := fun h => by
  have := hg.none T h
  have h1 := hc.1.1
  have h2 := hc.1.2.1
  rw [this] at h2; simp at h2; omega
theorem com_com {g : Gh} {n : Nat} (hg : GInv g n) {T U : Int} {k j m : Nat} (hc : Com g n T k) (hd : Com g n U j) (h1 : m ≤ k) (h2 : m ≤ j) : Pre m (g.L T) (g.L U) := by
  rcases Int.le_total T U with h | h
  · exact ((com_le hg hc h (hd.ld hg)).mono h1).symm
  · exact (com_le hg hd h (hc.ld hg)).mono h2
end Go.Proofs.YtlpcdcpcfeaecaaAb
end
section
namespace Go.Proofs.YtlpcdcpcfeaecaaAb
open Go
structure Gle (g g' : Gh) : Prop where
  vt : ∀ v t, g.vt v t ≠ 0 → g'.vt v t = g.vt v t
  ld : ∀ T c, g.ld T = some c → g'.ld T = some c
  L : ∀ T, ∃ s, g'.L T = g.L T ++ s
  tail : ∀ T k, g.ld T ≠ none → (g.L T).length < k → k ≤ (g'.L T).length → tn (g'.L T) k = T
  cl : ∀ U (c : Nat), g.vt c U = (c : Int) + 1 → g'.cl U c = g.cl U c
  ac : ∀ T v, g.ac T v ≤ g'.ac T v
  ev : ∀ U w, g.ev U w → g'.ev U w
theorem Gle.refl (g : Gh) : Gle g g := ⟨fun _ _ _ => rfl, fun _ _ h => h, fun T => ⟨[], by simp⟩, fun T k _ h1 h2 => by omega, fun _ _ _ => rfl, fun _ _ => Nat.le_refl _, fun _ _ h => h⟩
section
variable {g g' : Gh} {n i : Nat}
theorem Gle.len (h : Gle g g') (T : Int) : (g.L T).length ≤ (g'.L T).length := by obtain ⟨s, e⟩ := h.L T; rw [e]; simp
theorem Gle.pre (h : Gle g g') {T : Int} {k : Nat} (hk : k ≤ (g.L T).length) : Pre k (g'.L T) (g.L T) := by obtain ⟨s, e⟩ := h.L T; rw [e]; exact Pre.of_append hk
theorem Gle.preR (h : Gle g g') {T : Int} {k : Nat} {l : List GRec} (hp : Pre k l (g.L T)) : Pre k l (g'.L T) := hp.trans (h.pre hp.2.1).symm
theorem Gle.pre2 (h : Gle g g') {T U : Int} {k : Nat} (hp : Pre k (g.L U) (g.L T)) : Pre k (g'.L U) (g'.L T) := (h.preR hp.symm).symm.trans ((h.pre hp.2.1).symm) |> fun x => x
theorem Gle.good (h : Gle g g') {t : Int} {l : List GRec} (hl : GoodLog g t l) : GoodLog g' t l :=
  ⟨fun k h1 h2 => by obtain ⟨a, b, c⟩ := hl.ent k h1 h2; exact ⟨a, b, h.preR c⟩, hl.idx, hl.len⟩
theorem Gle.ent (h : Gle g g') {T : Int} {k : Nat} (he : Ent g T k) : Ent g' T k :=
  ⟨he.1, Nat.le_trans he.2.1 (h.len T), by rw [(h.pre he.2.1).tn (Nat.le_refl _)]; exact he.2.2⟩
theorem Gle.entB (h : Gle g g') {T : Int} {k : Nat} (he : Ent g' T k) (hk : k ≤ (g.L T).length) : Ent g T k :=
  ⟨he.1, hk, by rw [← (h.pre hk).tn (Nat.le_refl _)]; exact he.2.2⟩
theorem Gle.com (h : Gle g g') {T : Int} {k : Nat} (hc : Com g n T k) : Com g' n T k :=
  ⟨h.ent hc.1, hc.2.mono fun v _ hv => Nat.le_trans hv (h.ac T v)⟩
theorem Gle.back (h : Gle g g') {T U : Int} {k : Nat} (he : Ent g T k) (hT : T < U) (hU : g.ld U ≠ none) (hp : Pre k (g'.L U) (g'.L T)) : Pre k (g.L U) (g.L T) := by
  have h1 : tn (g'.L U) k = T := by rw [hp.tn (Nat.le_refl _), (h.pre he.2.1).tn (Nat.le_refl _)]; exact he.2.2
  have h2 : k ≤ (g.L U).length := by
    rcases Nat.lt_or_ge (g.L U).length k with hh | hh
    · have := h.tail U k hU hh hp.1; omega
    · exact hh
  exact (h.pre h2).symm.trans (hp.trans (h.pre he.2.1))
end
structure GStep (i : Nat) (τ : Int) (g g' : Gh) : Prop extends Gle g g' where
  vtO : ∀ v t, v ≠ i → g'.vt v t = g.vt v t
  acO : ∀ T v, v ≠ i → g'.ac T v = g.ac T v
  ldO : ∀ T c, g'.ld T = some c → g.ld T = some c ∨ c = i
  LO : ∀ T, g'.ld T ≠ some i → g'.L T = g.L T
  clO : ∀ U c, c ≠ i → g'.cl U c = g.cl U c
  acI : ∀ T, T ≠ τ → g'.ac T i = g.ac T i
  evO : ∀ U w, g'.ev U w → g.ev U w ∨ (w = i ∧ g.vt i U = 0)
  vtI : ∀ U, g.vt i U ≠ 0 → U ≤ τ
theorem GStep.inv {g g' : Gh} {n i : Nat} {τ : Int} (h : GStep i τ g g') (hg : GInv g n)
    (hL : ∀ T, g'.ld T = some i → GoodLog g' T (g'.L T))
    (hld : ∀ T, g'.ld T = some i → g.ld T = some i ∨ ((i < n ∧ 1 ≤ T) ∧ Maj n (fun v => g'.ev T v ∧ g'.vt v T = (i : Int) + 1)))
    (hac : ∀ T, g'.ac T i ≤ (g'.L T).length)
    (hext : ∀ T, g'.ld T = some i → ∃ s, g'.L T = g'.cl T i ++ s)
    (hnew : ∀ U (c : Nat), i < n → g.vt i U = 0 → g'.vt i U = (c : Int) + 1 → (c < n ∧ g'.vt c U = (c : Int) + 1) ∧ GoodLog g' (U - 1) (g'.cl U c) ∧ (g'.ld U = none → g'.ev U i) ∧
      (g'.ev U i → ∀ T k, T < U → Ent g' T k → k ≤ g'.ac T i → (∀ U', T < U' → U' < U → g'.ld U' ≠ none → Pre k (g'.L U') (g'.L T)) → Pre k (g'.cl U c) (g'.L T)))
    (hcand : ∀ U, i < n → g'.vt i U ≠ 0 → ∃ c : Nat, g'.vt i U = (c : Int) + 1) (hevI : ∀ U, i < n → g'.ev U i → g'.vt i U ≠ 0) : GInv g' n := by
  have hold : ∀ w U (c : Nat), w < n → g'.vt w U = (c : Int) + 1 → g.vt w U = (c : Int) + 1 ∨ (w = i ∧ g.vt i U = 0) := by
    intro w U c hw hv
    by_cases hz : g.vt w U = 0
    · by_cases hwi : w = i
      · exact .inr ⟨hwi, by rw [← hwi]; exact hz⟩
      · rw [h.vtO w U hwi] at hv; exact .inl hv
    · rw [h.vt w U hz] at hv; exact .inl hv
  have hacle : ∀ T v, g'.ac T v ≤ (g'.L T).length := fun T v => by
    by_cases hv : v = i
    · rw [hv]; exact hac T
    · rw [h.acO T v hv]; exact Nat.le_trans (hg.ac T v) (h.len T)
  refine ⟨fun w U c hw hv => ?_, fun T => ?_, fun T hT => ?_, fun T c hT => ?_, fun U w hw he => ?_, fun w U hw hv => ?_, fun w U hw hv hU => ?_, hacle, fun U c hU => ?_, fun w U c hw hv => ?_, fun w U c T k hw hev hv hT he hk hb => ?_⟩
  · rcases hold w U c hw hv with h1 | ⟨rfl, h1⟩
    · obtain ⟨a, b⟩ := hg.self w U c hw h1
      exact ⟨a, by rw [h.vt c U (by omega)]; exact b⟩
    · exact (hnew U c hw h1 hv).1
  · by_cases hi : g'.ld T = some i
    · exact hL T hi
    · rw [h.LO T hi]; exact h.good (hg.log T)
  · have h1 : g.ld T = none := by
      cases hh : g.ld T with
      | none => rfl
      | some c => rw [h.ld T c hh] at hT; cases hT
    rw [h.LO T (by rw [hT]; exact fun h => by cases h)]; exact hg.none T h1
  · rcases h.ldO T c hT with h1 | rfl
    · obtain ⟨a, b⟩ := hg.ld T c h1
      exact ⟨a, b.mono fun v _ hv => ⟨h.ev T v hv.1, by rw [h.vt v T (by omega)]; exact hv.2⟩⟩
    · rcases hld T hT with h1 | h1
      · obtain ⟨a, b⟩ := hg.ld T c h1
        exact ⟨a, b.mono fun v _ hv => ⟨h.ev T v hv.1, by rw [h.vt v T (by omega)]; exact hv.2⟩⟩
      · exact h1
  · by_cases hwi : w = i
    · rw [hwi] at hw he ⊢; exact hevI U hw he
    · rcases h.evO U w he with h1 | h1
      · rw [h.vtO w U hwi]; exact hg.evv U w hw h1
      · exact absurd h1.1 hwi
  · by_cases hwi : w = i
    · rw [hwi] at hw hv ⊢; exact hcand U hw hv
    · rw [h.vtO w U hwi] at hv ⊢; exact hg.form w U hw hv
  · have h1 : g.ld U = none := by
      cases hh : g.ld U with
      | none => rfl
      | some c => rw [h.ld U c hh] at hU; cases hU
    by_cases hz : g.vt w U = 0
    · have hwi : w = i := Classical.byContradiction fun hwi => hv (by rw [h.vtO w U hwi]; exact hz)
      subst hwi
      obtain ⟨c, hc⟩ := hcand U hw hv
      exact (hnew U c hw hz hc).2.2.1 hU
    · exact h.ev U w (hg.early w U hw hz h1)
  · by_cases hc : c = i
    · subst hc; exact hext U hU
    · rcases h.ldO U c hU with h1 | h1
      · rw [h.LO U (by rw [hU]; exact fun hh => hc (Option.some.inj hh)), h.clO U c hc]; exact hg.ext U c h1
      · exact absurd h1 hc
  · rcases hold w U c hw hv with h1 | ⟨rfl, h1⟩
    · rw [h.cl U c (hg.self w U c hw h1).2]; exact h.good (hg.cl w U c hw h1)
    · exact (hnew U c hw h1 hv).2.1
  · rcases hold w U c hw hv with h1 | ⟨rfl, h1⟩
    · have hacw : g'.ac T w = g.ac T w := by
        by_cases hwi : w = i
        · rw [hwi]; refine h.acI T ?_
          have := h.vtI U (by rw [← hwi, h1]; omega)
          omega
        · exact h.acO T w hwi
      rw [hacw] at hk
      have he' := h.entB he (Nat.le_trans hk (hg.ac T w))
      have hev' : g.ev U w := (h.evO U w hev).resolve_right fun hh => by rw [hh.1, hh.2] at h1; omega
      have := hg.y w U c T k hw hev' h1 hT he' hk (fun U' h2 h3 h4 => h.back he' h2 h4 (hb U' h2 h3 (fun h5 => by
        cases hh : g.ld U' with
        | none => exact h4 hh
        | some c' => rw [h.ld U' c' hh] at h5; cases h5)))
      rw [h.cl U c (hg.self w U c hw h1).2]
      exact h.preR this
    · exact (hnew U c hw h1 hv).2.2.2 hev T k hT he hk hb
structure PInv (g : Gh) (n i : Nat) (p : GPeer) : Prop where
  vote : g.vt i p.Term = p.Vote
  later : ∀ t, p.Term < t → g.vt i t = 0
  log : GoodLog g p.Term p.Log
  lead : p.Role = 2 → g.ld p.Term = some i ∧ g.L p.Term = p.Log ∧ NextOk n p ∧ p.Match.length = n ∧ ∀ (v : Nat) x, p.Match[v]? = some x → 0 ≤ x ∧ x ≤ (g.ac p.Term v : Int)
  cand : p.Role = 1 → g.cl p.Term i = p.Log ∧ g.vt i p.Term = (i : Int) + 1 ∧ p.Votes.length = n ∧ (∀ v, p.Votes[v]? = some true → g.vt v p.Term = (i : Int) + 1) ∧ g.ld p.Term ≠ some i ∧ 1 ≤ p.Term
  z : ∀ T k, Ent g T k → T ≤ p.Term → k ≤ g.ac T i → (∀ U, T < U → U ≤ p.Term → g.ld U ≠ none → Pre k (g.L U) (g.L T)) → Pre k p.Log (g.L T)
  acl : ∀ T, p.Term < T → g.ac T i = 0
  ldl : ∀ T, g.ld T = some i → T ≤ p.Term
  com0 : 0 ≤ p.Commit
  com : p.Commit = 0 ∨ ∃ T k, Com g n T k ∧ T ≤ p.Term ∧ p.Commit ≤ (k : Int) ∧ Pre p.Commit.toNat p.Log (g.L T)
  term : 0 ≤ p.Term ∧ p.Term ≤ 1000000
  votes : p.Votes.length ≤ 1000
  mat : p.Match.length ≤ 1000
  next : p.Next.length ≤ 1000
theorem GStep.other {g g' : Gh} {n i j : Nat} {τ : Int} {p : GPeer} (h : GStep i τ g g') (hg : GInv g n) (hj : j ≠ i) (hp : PInv g n j p) : PInv g' n j p := by
  have hldj : ∀ T, g'.ld T = some j → g.ld T = some j := fun T hT => (h.ldO T j hT).resolve_right hj
  have hldn : ∀ U, g.ld U ≠ none → g'.ld U ≠ none := fun U h4 h5 => by
    cases hh : g.ld U with
    | none => exact h4 hh
    | some c' => rw [h.ld U c' hh] at h5; cases h5
  refine ⟨by rw [h.vtO j _ hj]; exact hp.vote, fun t ht => by rw [h.vtO j _ hj]; exact hp.later t ht, h.good hp.log, fun hr => ?_, fun hr => ?_, fun T k he hT hk hb => ?_, fun T hT => by rw [h.acO T j hj]; exact hp.acl T hT, fun T hT => hp.ldl T (hldj T hT), hp.com0, ?_, hp.term, hp.votes, hp.mat, hp.next⟩
  · obtain ⟨a, b, c, d, e⟩ := hp.lead hr
    have a' := h.ld _ _ a
    exact ⟨a', by rw [h.LO _ (by rw [a']; exact fun hh => hj (Option.some.inj hh))]; exact b, c, d, fun v x hx => by
      obtain ⟨e1, e2⟩ := e v x hx
      have := h.ac p.Term v
      exact ⟨e1, by omega⟩⟩
  · obtain ⟨a, b, c, d, e⟩ := hp.cand hr
    exact ⟨by rw [h.clO _ _ hj]; exact a, by rw [h.vtO _ _ hj]; exact b, c, fun v hv => by rw [h.vt v _ (by rw [d v hv]; omega)]; exact d v hv, fun hh => e.1 (hldj _ hh), e.2⟩
  · rw [h.acO T j hj] at hk
    have he' := h.entB he (Nat.le_trans hk (hg.ac T j))
    exact h.preR (hp.z T k he' hT hk fun U h1 h2 h3 => h.back he' h1 h3 (hb U h1 h2 (hldn U h3)))
  · rcases hp.com with h1 | ⟨T, k, a, b, c, d⟩
    · exact .inl h1
    · exact .inr ⟨T, k, h.com a, b, c, h.preR d⟩
structure MInv (g : Gh) (n : Nat) (m : GMsg) : Prop where
  frm : ∃ f : Nat, m.From = (f : Int) ∧ f < n
  to : ∃ t : Nat, m.To = (t : Int) ∧ t < n
  ne : m.From ≠ m.To
  a : 0 ≤ m.A ∧ m.A ≤ 1000
  term : m.Term ≤ 1000000
  k1 : m.Kind = 1 → g.vt m.From.toNat m.Term = m.From + 1 ∧ m.A = ((g.cl m.Term m.From.toNat).length : Int) ∧ m.B = tn (g.cl m.Term m.From.toNat) (g.cl m.Term m.From.toNat).length
  k2 : m.Kind = 2 → m.Ok = true → g.vt m.From.toNat m.Term = m.To + 1
  k3 : m.Kind = 3 → g.ld m.Term = some m.From.toNat ∧ m.A ≤ ((g.L m.Term).length : Int) ∧ m.B = tn (g.L m.Term) m.A.toNat ∧ (∃ e, m.A.toNat ≤ e ∧ e ≤ (g.L m.Term).length ∧ m.Log = ((g.L m.Term).take e).drop m.A.toNat) ∧
    (m.C = 0 ∨ 0 < m.C ∧ ∃ T k, Com g n T k ∧ T ≤ m.Term ∧ m.C ≤ (k : Int) ∧ Pre m.C.toNat (g.L m.Term) (g.L T))
  k3n : m.Kind ≠ 3 → m.Log = []
  k4 : m.Kind = 4 → m.A ≤ ((g.L m.Term).length : Int) ∧ (m.Ok = true → m.A ≤ (g.ac m.Term m.From.toNat : Int))
theorem Gle.msg {g g' : Gh} {n : Nat} (h : Gle g g') {m : GMsg} (hm : MInv g n m) : MInv g' n m := by
  obtain ⟨f, hf, hfn⟩ := hm.frm
  have hff : m.From.toNat = f := by omega
  obtain ⟨t, ht, htn⟩ := hm.to
  refine ⟨hm.frm, hm.to, hm.ne, hm.a, hm.term, fun hk => ?_, fun hk ho => ?_, fun hk => ?_, hm.k3n, fun hk => ?_⟩
  · obtain ⟨a, b, c⟩ := hm.k1 hk
    have e := h.cl m.Term m.From.toNat (by rw [a]; omega)
    exact ⟨by rw [h.vt _ _ (by omega)]; exact a, by rw [e]; exact b, by rw [e]; exact c⟩
  · have a := hm.k2 hk ho
    rw [h.vt _ _ (by omega)]; exact a
  · obtain ⟨a, b, c, ⟨e, e1, e2, e3⟩, d⟩ := hm.k3 hk
    have hp : Pre (g.L m.Term).length (g'.L m.Term) (g.L m.Term) := h.pre (Nat.le_refl _)
    have hl := h.len m.Term
    obtain ⟨x1, x2⟩ := hm.a
    refine ⟨h.ld _ _ a, by omega, by rw [hp.tn (by omega)]; exact c, ⟨e, e1, by omega, by rw [(hp.mono e2).2.2]; exact e3⟩, ?_⟩
    rcases d with d | ⟨d0, T, k, d1, d2, d3, d4⟩
    · exact .inl d
    · exact .inr ⟨d0, T, k, h.com d1, d2, d3, h.pre2 d4⟩
  · obtain ⟨a, b⟩ := hm.k4 hk
    have := h.len m.Term
    have := h.ac m.Term m.From.toNat
    exact ⟨by omega, fun ho => by have := b ho; omega⟩
end Go.Proofs.YtlpcdcpcfeaecaaAb
end
section
namespace Go.Proofs.YtlpcdcpcfeaecaaAb
open Go
theorem Pre.of_get {k : Nat} {l l' : List GRec} (h1 : k ≤ l.length) (h2 : k ≤ l'.length) (h : ∀ j, j < k → l[j]? = l'[j]?) : Pre k l l' := by
  refine ⟨h1, h2, List.ext_getElem? fun j => ?_⟩
  rw [List.getElem?_take, List.getElem?_take]
  split
  · next hj => exact h j hj
  · rfl
theorem GStep.refl {g : Gh} {i : Nat} {τ : Int} (h : ∀ U, g.vt i U ≠ 0 → U ≤ τ) : GStep i τ g g :=
  ⟨Gle.refl g, fun _ _ _ => rfl, fun _ _ _ => rfl, fun _ _ h => .inl h, fun _ _ => rfl, fun _ _ _ => rfl, fun _ _ => rfl, fun _ _ h => .inl h, h⟩
theorem PInv.vtI {g : Gh} {n i : Nat} {p : GPeer} (h : PInv g n i p) : ∀ U, g.vt i U ≠ 0 → U ≤ p.Term := fun U hU => by
  by_cases h1 : p.Term < U
  · exact absurd (h.later U h1) hU
  · omega
structure CInv (g : Gh) (c : GCluster) : Prop where
  n1 : 1 ≤ c.Peers.length
  n7 : c.Peers.length ≤ 7
  gi : GInv g c.Peers.length
  peers : ∀ (i : Nat) p, c.Peers[i]? = some p → PInv g c.Peers.length i p
  net : ∀ m ∈ c.Net, MInv g c.Peers.length m
  netl : c.Net.length ≤ 200
  ch : c.Chosen = [] ∨ ∃ T k, Com g c.Peers.length T k ∧ c.Chosen.length ≤ k ∧ Pre c.Chosen.length c.Chosen (g.L T)
  conf : c.Conflict = false
theorem CInv.send {g : Gh} {c : GCluster} {m : GMsg} (h : CInv g c) (hm : MInv g c.Peers.length m) : CInv g (mSend c m) := by
  unfold mSend
  split
  · next hl =>
    refine ⟨h.n1, h.n7, h.gi, h.peers, fun x hx => ?_, by simp; omega, h.ch, h.conf⟩
    rcases List.mem_append.1 hx with hx | hx
    · exact h.net x hx
    · rw [List.mem_singleton.1 hx]; exact hm
  · exact h
theorem CInv.step {g g' : Gh} {c : GCluster} {i : Nat} {p p' : GPeer} {τ : Int} (h : CInv g c) (hp : c.Peers[i]? = some p) (hs : GStep i τ g g') (hg : GInv g' c.Peers.length) (hp' : PInv g' c.Peers.length i p') :
    CInv g' { c with Peers := c.Peers.set i p' } := by
  have hl : (c.Peers.set i p').length = c.Peers.length := List.length_set
  refine ⟨by show 1 ≤ (c.Peers.set i p').length; rw [hl]; exact h.n1, by show (c.Peers.set i p').length ≤ 7; rw [hl]; exact h.n7, by show GInv g' (c.Peers.set i p').length; rw [hl]; exact hg, fun j q hq => ?_, fun m hm => ?_, h.netl, ?_, h.conf⟩
  · show PInv g' (c.Peers.set i p').length j q
    rw [hl]
    by_cases hj : j = i
    · subst hj
      have : (c.Peers.set j p')[j]? = some q := hq
      rw [get_set hp] at this
      rw [← Option.some.inj this]; exact hp'
    · have : (c.Peers.set i p')[j]? = some q := hq
      rw [List.getElem?_set_ne (fun hh => hj hh.symm)] at this
      exact hs.other h.gi hj (h.peers j q this)
  · show MInv g' (c.Peers.set i p').length m
    rw [hl]; exact hs.toGle.msg (h.net m hm)
  · show c.Chosen = [] ∨ ∃ T k, Com g' (c.Peers.set i p').length T k ∧ _
    rw [hl]
    rcases h.ch with h1 | ⟨T, k, a, b, d⟩
    · exact .inl h1
    · exact .inr ⟨T, k, hs.com a, b, hs.preR d⟩
theorem CInv.same {g : Gh} {c : GCluster} {i : Nat} {p p' : GPeer} (h : CInv g c) (hp : c.Peers[i]? = some p) (hp' : PInv g c.Peers.length i p') : CInv g { c with Peers := c.Peers.set i p' } :=
  h.step (τ := p.Term) hp (GStep.refl (h.peers i p hp).vtI) h.gi hp'
theorem chooseL_m : ∀ (m i : Nat) (xs ch : List GRec), xs.length - i = m → i ≤ xs.length → i ≤ ch.length → (∀ j, j < xs.length → j < ch.length → xs[j]? = ch[j]?) →
    (chooseL (xs.drop i) i ch false).2 = false ∧ (chooseL (xs.drop i) i ch false).1.length = max xs.length ch.length ∧ (∀ j, j < xs.length → (chooseL (xs.drop i) i ch false).1[j]? = xs[j]?) ∧ (∀ j, j < ch.length → (chooseL (xs.drop i) i ch false).1[j]? = ch[j]?) := by
  intro m
  induction m with
  | zero =>
    intro i xs ch hm hi hc hx
    rw [List.drop_of_length_le (by omega)]
    unfold chooseL
    exact ⟨rfl, by show ch.length = _; omega, fun j hj => (hx j hj (by omega)).symm, fun j _ => rfl⟩
  | succ m ih =>
    intro i xs ch hm hi hc hx
    have hlt : i < xs.length := by omega
    rw [List.drop_eq_getElem_cons hlt]
    unfold chooseL
    by_cases h1 : i = ch.length
    · rw [if_pos h1]
      have hx2 : ∀ j, j < xs.length → j < (ch ++ [xs[i]]).length → xs[j]? = (ch ++ [xs[i]])[j]? := by
        intro j h2 h3
        rcases Nat.lt_or_ge j ch.length with h4 | h4
        · rw [List.getElem?_append_left h4]; exact hx j h2 h4
        · have h5 : j = i := by simp at h3; omega
          subst h5
          rw [List.getElem?_append_right (by omega), List.getElem?_eq_getElem h2]
          simp [h1]
      obtain ⟨a, b, d, e⟩ := ih (i + 1) xs (ch ++ [xs[i]]) (by omega) (by omega) (by simp; omega) hx2
      refine ⟨a, by rw [b]; simp; omega, d, fun j hj => ?_⟩
      rw [e j (by simp; omega), List.getElem?_append_left hj]
    · rw [if_neg h1]
      have hlt2 : i < ch.length := by omega
      have e := hx i hlt hlt2
      rw [List.getElem?_eq_getElem hlt, List.getElem?_eq_getElem hlt2] at e
      rw [List.getElem?_eq_getElem hlt2, ← Option.some.inj e]
      simp only [Option.map_some, Option.getD_some, sameR_self, Bool.not_true, Bool.or_false]
      exact ih (i + 1) xs ch (by omega) (by omega) (by omega) hx
theorem CInv.choose {g : Gh} {c : GCluster} {i : Nat} {p : GPeer} (h : CInv g c) (hp : c.Peers[i]? = some p) : CInv g (mChoose c p) := by
  have hpi := h.peers i p hp
  have hconf := h.conf
  rcases hpi.com with h0 | ⟨T, k, hc, hT, hk, hpre⟩
  · have e : mChoose c p = c := by
      unfold mChoose
      rw [h0]; rfl
    rw [e]; exact h
  · have hcom0 := hpi.com0
    have hlen : (p.Log.take p.Commit.toNat).length = p.Commit.toNat := by rw [List.length_take]; have := hpre.1; omega
    have hget : ∀ j, j < p.Commit.toNat → (p.Log.take p.Commit.toNat)[j]? = (g.L T)[j]? := fun j hj => by
      rw [List.getElem?_take, if_pos hj]; exact hpre.get hj
    have hcomp : ∀ j, j < (p.Log.take p.Commit.toNat).length → j < c.Chosen.length → (p.Log.take p.Commit.toNat)[j]? = c.Chosen[j]? := by
      intro j h1 h2
      rw [hlen] at h1
      rw [hget j h1]
      rcases h.ch with h3 | ⟨T2, k2, a, b, d⟩
      · rw [h3] at h2; simp at h2
      · rw [d.get h2]
        exact (com_com h.gi hc a (m := j + 1) (by omega) (by omega)).get (by omega)
    have key := chooseL_m _ 0 (p.Log.take p.Commit.toNat) c.Chosen rfl (by omega) (by omega) hcomp
    rw [List.drop_zero, hlen] at key
    obtain ⟨q1, q2, q3, q4⟩ := key
    unfold mChoose
    rw [hconf]
    refine ⟨h.n1, h.n7, h.gi, h.peers, h.net, h.netl, .inr ?_, q1⟩
    show ∃ T k, Com g c.Peers.length T k ∧ (chooseL (p.Log.take p.Commit.toNat) 0 c.Chosen false).1.length ≤ k ∧ Pre (chooseL (p.Log.take p.Commit.toNat) 0 c.Chosen false).1.length (chooseL (p.Log.take p.Commit.toNat) 0 c.Chosen false).1 (g.L T)
    rw [q2]
    rcases Nat.le_total c.Chosen.length p.Commit.toNat with h5 | h5
    · refine ⟨T, k, hc, by omega, Pre.of_get (by omega) (by have := hpre.2.1; omega) fun j hj => ?_⟩
      have hj' : j < p.Commit.toNat := by omega
      rw [q3 j hj', hget j hj']
    · rcases h.ch with h3 | ⟨T2, k2, a, b, d⟩
      · rw [h3] at h5 ⊢
        exact ⟨T, k, hc, by simp; omega, Pre.of_get (by rw [h3] at q2; omega) (by have := hpre.2.1; simp; omega) fun j hj => by
          have hj' : j < p.Commit.toNat := by simp at hj; omega
          rw [h3] at q3; rw [q3 j hj', hget j hj']⟩
      · refine ⟨T2, k2, a, by omega, Pre.of_get (by omega) (by have := d.2.1; omega) fun j hj => ?_⟩
        have hj' : j < c.Chosen.length := by omega
        rw [q4 j hj', d.get hj']
end Go.Proofs.YtlpcdcpcfeaecaaAb
end
section
namespace Go.Proofs.YtlpcdcpcfeaecaaAb
open Go
section
variable {g : Gh} {n i : Nat} {p : GPeer}
theorem PInv.newer (h : PInv g n i p) {t : Int} (h1 : p.Term < t) (h2 : t ≤ 1000000) : PInv g n i { p with Term := t, Vote := 0, Role := 0, Votes := [], Next := [], Match := [] } := by
  refine ⟨h.later t h1, fun t' ht => h.later t' (by have : t < t' := ht; omega), h.log.mono (by show p.Term ≤ t; omega), (fun hh => nomatch hh), (fun hh => nomatch hh), fun T k he hT hk hb => ?_, fun T hT => h.acl T (by have : t < T := hT; omega), fun T hT => by have := h.ldl T hT; show T ≤ t; omega, h.com0, ?_, ⟨by have := h.term.1; show 0 ≤ t; omega, h2⟩, Nat.zero_le _, Nat.zero_le _, Nat.zero_le _⟩
  · by_cases hT2 : T ≤ p.Term
    · exact h.z T k he hT2 hk fun U a b c => hb U a (by show U ≤ t; omega) c
    · rw [h.acl T (by omega)] at hk
      have := he.1; omega
  · rcases h.com with a | ⟨T, k, a, b, c⟩
    · exact .inl a
    · exact .inr ⟨T, k, a, by show T ≤ t; omega, c⟩
theorem PInv.reset (h : PInv g n i p) : PInv g n i { p with Role := 0, Votes := [], Next := [], Match := [] } :=
  ⟨h.vote, h.later, h.log, (fun hh => nomatch hh), (fun hh => nomatch hh), h.z, h.acl, h.ldl, h.com0, h.com, h.term, Nat.zero_le _, Nat.zero_le _, Nat.zero_le _⟩
theorem PInv.down (h : PInv g n i p) : PInv g n i (mDown p) :=
  ⟨h.vote, h.later, h.log, (fun hh => nomatch hh), (fun hh => nomatch hh), h.z, h.acl, h.ldl, Int.le_refl _, .inl rfl, h.term, Nat.zero_le _, Nat.zero_le _, Nat.zero_le _⟩
theorem PInv.up (h : PInv g n i p) : PInv g n i { p with Up := true } :=
  ⟨h.vote, h.later, h.log, h.lead, h.cand, h.z, h.acl, h.ldl, h.com0, h.com, h.term, h.votes, h.mat, h.next⟩
theorem PInv.newerM (h : PInv g n i p) {m : GMsg} (hm : m.Term ≤ 1000000) : PInv g n i (mNewer m p) := by
  unfold mNewer
  split
  · next h1 => exact h.newer h1 hm
  · exact h
theorem PInv.heard (h : PInv g n i p) {m : GMsg} (hr : p.Role = 1) (hv : g.vt m.From.toNat p.Term = (i : Int) + 1) : PInv g n i (mHeard m p) := by
  obtain ⟨a, b, c, d, e⟩ := h.cand hr
  refine ⟨h.vote, h.later, h.log, fun hh => ?_, fun _ => ⟨a, b, by show (p.Votes.set _ _).length = n; rw [List.length_set]; exact c, fun v hvv => ?_, e⟩, h.z, h.acl, h.ldl, h.com0, h.com, h.term, by show (p.Votes.set _ _).length ≤ _; rw [List.length_set]; exact h.votes, h.mat, h.next⟩
  · have : p.Role = 2 := hh
    omega
  · have hvv' : (p.Votes.set m.From.toNat true)[v]? = some true := hvv
    by_cases hf : v = m.From.toNat
    · rw [hf]; exact hv
    · rw [List.getElem?_set_ne (fun hh => hf hh.symm)] at hvv'
      exact d v hvv'
theorem PInv.match_ac (hg : GInv g n) (h : PInv g n i p) (hr : p.Role = 2) {v : Nat} {x : Int} (hx : p.Match[v]? = some x) : 0 ≤ x ∧ x ≤ (p.Log.length : Int) := by
  obtain ⟨a, b, c, d, e⟩ := h.lead hr
  obtain ⟨e1, e2⟩ := e v x hx
  have := hg.ac p.Term v
  rw [b] at this
  exact ⟨e1, by omega⟩
theorem PInv.nextSet (h : PInv g n i p) (hr : p.Role = 2) {f : Nat} {x : Int} (h1 : 1 ≤ x) (h2 : x ≤ (p.Log.length : Int) + 1) : PInv g n i { p with Next := p.Next.set f x } := by
  obtain ⟨a, b, c, d, e⟩ := h.lead hr
  refine ⟨h.vote, h.later, h.log, fun _ => ⟨a, b, ⟨by show (p.Next.set f x).length = n; rw [List.length_set]; exact c.1, fun y hy => ?_⟩, d, e⟩, fun hh => ?_, h.z, h.acl, h.ldl, h.com0, h.com, h.term, h.votes, h.mat, by show (p.Next.set f x).length ≤ _; rw [List.length_set]; exact h.next⟩
  · rcases List.mem_or_eq_of_mem_set (show y ∈ p.Next.set f x from hy) with hy | rfl
    · exact c.2 y hy
    · exact ⟨h1, h2⟩
  · have : p.Role = 1 := hh
    omega
theorem PInv.matSet (h : PInv g n i p) (hr : p.Role = 2) {f : Nat} {x : Int} (h1 : 0 ≤ x) (h2 : x ≤ (g.ac p.Term f : Int)) : PInv g n i { p with Match := p.Match.set f x } := by
  obtain ⟨a, b, c, d, e⟩ := h.lead hr
  refine ⟨h.vote, h.later, h.log, fun _ => ⟨a, b, c, by show (p.Match.set f x).length = n; rw [List.length_set]; exact d, fun v y hy => ?_⟩, fun hh => ?_, h.z, h.acl, h.ldl, h.com0, h.com, h.term, h.votes, by show (p.Match.set f x).length ≤ _; rw [List.length_set]; exact h.mat, h.next⟩
  · have hy' : (p.Match.set f x)[v]? = some y := hy
    by_cases hf : v = f
    · subst hf
      by_cases hlt : v < p.Match.length
      · rw [List.getElem?_set_self hlt] at hy'
        rw [← Option.some.inj hy']; exact ⟨h1, h2⟩
      · rw [List.getElem?_eq_none (by rw [List.length_set]; omega)] at hy'; cases hy'
    · rw [List.getElem?_set_ne (fun hh => hf hh.symm)] at hy'
      exact e v y hy'
  · have : p.Role = 1 := hh
    omega
theorem PInv.commit (hg : GInv g n) (h : PInv g n i p) (hr : p.Role = 2) {q : Int} (hq : q = (n : Int) / 2 + 1) : PInv g n i (mCommitP q p) := by
  unfold mCommitP
  split
  · next a ha =>
    obtain ⟨c1, c2, c3, c4⟩ := mCidx_some ha
    obtain ⟨l1, l2, l3, l4, l5⟩ := h.lead hr
    have h0 := h.com0
    rw [termAt_nat] at c3
    have hent : Ent g p.Term a := ⟨by omega, by rw [l2]; exact c2, by rw [l2]; exact c3⟩
    have hcom : Com g n p.Term a := by
      refine ⟨hent, ?_⟩
      unfold Maj
      have hcn := cntGe_cn (a : Int) p.Match
      rw [l4] at hcn
      have hmono := cn_mono (P := fun v => ∃ x, p.Match[v]? = some x ∧ (a : Int) ≤ x) (Q := fun v => a ≤ g.ac p.Term v) (List.range n) (fun v _ hv => by
        obtain ⟨x, hx, hax⟩ := hv
        have := (l5 v x hx).2
        omega)
      have e2 : ((n / 2 + 1 : Nat) : Int) = (n : Int) / 2 + 1 := by omega
      omega
    refine ⟨h.vote, h.later, h.log, h.lead, h.cand, h.z, h.acl, h.ldl, by show (0 : Int) ≤ (a : Int); omega, .inr ⟨p.Term, a, hcom, Int.le_refl _, Int.le_refl _, ?_⟩, h.term, h.votes, h.mat, h.next⟩
    show Pre ((a : Int)).toNat p.Log (g.L p.Term)
    rw [l2]; exact Pre.refl (by omega)
  · exact h
end
theorem CInv.commit {g : Gh} {c : GCluster} {i : Nat} {p0 p : GPeer} (h : CInv g { c with Peers := c.Peers.set i p }) (hi : c.Peers[i]? = some p0) (hr : p.Role = 2) : CInv g (mCommit { c with Peers := c.Peers.set i p } i p) := by
  have hp : (c.Peers.set i p)[i]? = some p := get_set hi
  have hpi := h.peers i p hp
  have h2 : CInv g { c with Peers := (c.Peers.set i p).set i (mCommitP (mMost { c with Peers := c.Peers.set i p }) p) } := h.same hp (hpi.commit h.gi hr rfl)
  exact h2.choose (get_set hp)
end Go.Proofs.YtlpcdcpcfeaecaaAb
end
section
namespace Go.Proofs.YtlpcdcpcfeaecaaAb
open Go
theorem mFrom_inv2 {g : GCluster → Nat → GCluster} {i N : Nat} {I : GCluster → Prop} (hg : ∀ d j, I d → j < N → j ≠ i → I (g d j)) : ∀ (m j : Nat) (d : GCluster), j + m ≤ N → I d → I (mFrom g i m j d)
  | 0, _, d, _, h => h
  | m + 1, j, d, hN, h => by
    unfold mFrom
    refine mFrom_inv2 hg m (j + 1) _ (by omega) ?_
    split
    · exact h
    · next hj => exact hg _ _ h (by omega) hj
theorem PInv.recMsg {g : Gh} {n i t : Nat} {p : GPeer} (hg : GInv g n) (h : PInv g n i p) (hr : p.Role = 2) (hi : i < n) (ht : t < n) (hne : i ≠ t) :
    MInv g n { Kind := 3, From := (i : Int), To := (t : Int), Term := p.Term, A := (p.Next[t]?.getD 1) - 1, B := termAt p.Log ((p.Next[t]?.getD 1) - 1), C := p.Commit, Ok := false, Log := p.Log.drop ((p.Next[t]?.getD 1) - 1).toNat } := by
  obtain ⟨a, b, c, d, e⟩ := h.lead hr
  obtain ⟨nx, h1, h2, h3⟩ := c.get ht
  have hll := h.log.len
  rw [h1, Option.getD_some]
  obtain ⟨k, hk⟩ : ∃ k : Nat, nx - 1 = (k : Int) := ⟨(nx - 1).toNat, by omega⟩
  rw [hk, termAt_nat]
  refine ⟨⟨i, rfl, hi⟩, ⟨t, rfl, ht⟩, fun hh => hne (Int.ofNat.inj hh), ⟨by show (0 : Int) ≤ (k : Int); omega, by show (k : Int) ≤ 1000; omega⟩, h.term.2, (fun hh => by cases hh), (fun hh => by cases hh), fun _ => ⟨a, ?_, ?_, ⟨p.Log.length, ?_, ?_, ?_⟩, ?_⟩, (fun hh => absurd rfl hh), (fun hh => by cases hh)⟩
  · show (k : Int) ≤ ((g.L p.Term).length : Int); rw [b]; omega
  · show tn p.Log k = tn (g.L p.Term) ((k : Int)).toNat; rw [b]; rfl
  · show ((k : Int)).toNat ≤ p.Log.length; omega
  · show p.Log.length ≤ (g.L p.Term).length; rw [b]; exact Nat.le_refl _
  · show p.Log.drop ((k : Int)).toNat = ((g.L p.Term).take p.Log.length).drop ((k : Int)).toNat; rw [b, List.take_length]
  · rcases h.com with h4 | ⟨T, k2, q1, q2, q3, q4⟩
    · exact .inl h4
    · rcases Int.lt_or_eq_of_le h.com0 with h5 | h5
      · exact .inr ⟨h5, T, k2, q1, q2, q3, by show Pre p.Commit.toNat (g.L p.Term) (g.L T); rw [b]; exact q4⟩
      · exact .inl h5.symm
theorem CInv.records {g : Gh} {c : GCluster} {i t : Nat} {p : GPeer} (h : CInv g c) (hp : c.Peers[i]? = some p) (hr : p.Role = 2) (ht : t < c.Peers.length) (hne : i ≠ t) : CInv g (mRecords c i p t) :=
  h.send ((h.peers i p hp).recMsg h.gi hr (List.getElem?_eq_some_iff.1 hp).1 ht hne)
theorem CInv.sendAll {g : Gh} {c : GCluster} {i : Nat} {p : GPeer} (h : CInv g c) (hp : c.Peers[i]? = some p) (hr : p.Role = 2) : CInv g (mSendAll c i p) := by
  refine (mFrom_inv2 (N := c.Peers.length) (I := fun d => CInv g d ∧ d.Peers = c.Peers) (fun d j hd hj hji => ⟨?_, ?_⟩) _ _ _ (by omega) ⟨h, rfl⟩).1
  · exact hd.1.records (by rw [hd.2]; exact hp) hr (by rw [hd.2]; exact hj) (fun hh => hji hh.symm)
  · rw [mRecords_peers]; exact hd.2
theorem CInv.askAll {g : Gh} {c : GCluster} {i : Nat} {p : GPeer} (h : CInv g c) (hp : c.Peers[i]? = some p) (hr : p.Role = 1) : CInv g (mAskAll c i p) := by
  have hpi := h.peers i p hp
  obtain ⟨a, b, q, d, e⟩ := hpi.cand hr
  have hi := (List.getElem?_eq_some_iff.1 hp).1
  refine (mFrom_inv2 (N := c.Peers.length) (I := fun x => CInv g x ∧ x.Peers = c.Peers) (fun x j hd hj hji => ⟨?_, ?_⟩) _ _ _ (by omega) ⟨h, rfl⟩).1
  · refine hd.1.send ?_
    rw [hd.2]
    have hl := hpi.log.len
    refine ⟨⟨i, rfl, hi⟩, ⟨j, rfl, hj⟩, fun hh => hji (Int.ofNat.inj hh).symm, ⟨by show (0 : Int) ≤ (p.Log.length : Int); omega, by show (p.Log.length : Int) ≤ 1000; omega⟩, hpi.term.2, fun _ => ⟨b, ?_, ?_⟩, (fun hh => by cases hh), (fun hh => by cases hh), fun _ => rfl, (fun hh => by cases hh)⟩
    · show (p.Log.length : Int) = ((g.cl p.Term i).length : Int); rw [a]
    · show termAt p.Log p.Log.length = tn (g.cl p.Term i) (g.cl p.Term i).length; rw [a, termAt_nat]
  · unfold mAsk; rw [mSend_peers]; exact hd.2
open Classical in
noncomputable def Gh.stand (g : Gh) (i : Nat) (U : Int) (l : List GRec) : Gh :=
  { g with vt := fun v t => if v = i ∧ t = U then (i : Int) + 1 else g.vt v t, cl := fun t c => if t = U ∧ c = i then l else g.cl t c, ev := fun t v => g.ev t v ∨ (t = U ∧ v = i ∧ g.ld U = none) }
theorem stand_step {g : Gh} {n i : Nat} {p : GPeer} (h : PInv g n i p) : GStep i p.Term g (g.stand i (p.Term + 1) p.Log) := by
  have hz : g.vt i (p.Term + 1) = 0 := h.later _ (by omega)
  refine ⟨⟨fun v t hv => ?_, fun _ _ h => h, fun T => ⟨[], by show g.L T = _; simp⟩, fun T k _ h1 h2 => by have h3 : k ≤ (g.L T).length := h2; omega, fun U c hc => ?_, fun _ _ => Nat.le_refl _, fun _ _ h => .inl h⟩, fun v t hv => ?_, fun _ _ _ => rfl, fun _ _ h => .inl h, fun _ _ => rfl, fun U c hc => ?_, fun _ _ => rfl, fun U w hw => ?_, h.vtI⟩
  · show (if v = i ∧ t = p.Term + 1 then (i : Int) + 1 else g.vt v t) = g.vt v t
    rw [if_neg]; rintro ⟨rfl, rfl⟩; exact hv hz
  · show (if U = p.Term + 1 ∧ c = i then p.Log else g.cl U c) = g.cl U c
    rw [if_neg]; rintro ⟨rfl, rfl⟩; omega
  · show (if v = i ∧ t = p.Term + 1 then (i : Int) + 1 else g.vt v t) = g.vt v t
    rw [if_neg]; rintro ⟨rfl, _⟩; exact hv rfl
  · show (if U = p.Term + 1 ∧ c = i then p.Log else g.cl U c) = g.cl U c
    rw [if_neg]; rintro ⟨_, rfl⟩; exact hc rfl
  · rcases hw with hw | ⟨rfl, rfl, _⟩
    · exact .inl hw
    · exact .inr ⟨rfl, hz⟩
end Go.Proofs.YtlpcdcpcfeaecaaAb
end
section
namespace Go.Proofs.YtlpcdcpcfeaecaaAb
open Go
theorem stand_inv {g : Gh} {n i : Nat} {p : GPeer} (hg : GInv g n) (hi : i < n) (h : PInv g n i p) : GInv (g.stand i (p.Term + 1) p.Log) n := by
  have hs := stand_step h
  refine hs.inv hg (fun T hT => hs.good (hg.log T)) (fun T hT => .inl hT) (fun T => hg.ac T i) (fun T hT => ?_) (fun U c hin hz hv => ?_) (fun U hin hv => ?_) ?_
  · have := h.ldl T hT
    obtain ⟨s, e⟩ := hg.ext T i hT
    refine ⟨s, ?_⟩
    show g.L T = (if T = p.Term + 1 ∧ i = i then p.Log else g.cl T i) ++ s
    rw [if_neg (by omega)]; exact e
  · have hv' : (if i = i ∧ U = p.Term + 1 then (i : Int) + 1 else g.vt i U) = (c : Int) + 1 := hv
    by_cases hU : U = p.Term + 1
    · subst hU
      rw [if_pos ⟨rfl, rfl⟩] at hv'
      have hc : c = i := by omega
      subst hc
      refine ⟨⟨hi, hv⟩, ?_, fun hn => .inr ⟨rfl, rfl, hn⟩, fun _ T k hT he hk hb => ?_⟩
      · show GoodLog _ (p.Term + 1 - 1) (if p.Term + 1 = p.Term + 1 ∧ c = c then p.Log else g.cl (p.Term + 1) c)
        rw [if_pos ⟨rfl, rfl⟩]; exact (hs.good h.log).mono (by omega)
      · show Pre k (if p.Term + 1 = p.Term + 1 ∧ c = c then p.Log else g.cl (p.Term + 1) c) (g.L T)
        rw [if_pos ⟨rfl, rfl⟩]
        exact h.z T k he (by omega) hk fun U' a b d => hb U' a (by omega) d
    · rw [if_neg (fun hh => hU hh.2)] at hv'
      omega
  · by_cases hU : U = p.Term + 1
    · exact ⟨i, by show (if i = i ∧ U = p.Term + 1 then (i : Int) + 1 else g.vt i U) = _; rw [if_pos ⟨rfl, hU⟩]⟩
    · have hv' : (if i = i ∧ U = p.Term + 1 then (i : Int) + 1 else g.vt i U) ≠ 0 := hv
      rw [if_neg (fun hh => hU hh.2)] at hv'
      obtain ⟨c, e⟩ := hg.form i U hin hv'
      exact ⟨c, by show (if i = i ∧ U = p.Term + 1 then (i : Int) + 1 else g.vt i U) = _; rw [if_neg (fun hh => hU hh.2)]; exact e⟩
  · intro U hin he
    rcases he with he | ⟨rfl, _, _⟩
    · rw [hs.vt i U (hg.evv U i hin he)]; exact hg.evv U i hin he
    · show (if i = i ∧ (p.Term + 1) = (p.Term + 1) then (i : Int) + 1 else g.vt i (p.Term + 1)) ≠ 0
      rw [if_pos ⟨rfl, rfl⟩]; omega
theorem stand_peer {g : Gh} {n i : Nat} {p : GPeer} (hn : n ≤ 1000) (hg : GInv g n) (hi : i < n) (h : PInv g n i p) (ht : p.Term < 1000000) : PInv (g.stand i (p.Term + 1) p.Log) n i (mCand n i p) := by
  have hs := stand_step h
  have hv : (g.stand i (p.Term + 1) p.Log).vt i (p.Term + 1) = (i : Int) + 1 := if_pos ⟨rfl, rfl⟩
  have ht0 := h.term.1
  refine ⟨hv, fun t htt => ?_, (hs.good h.log).mono (by show p.Term ≤ p.Term + 1; omega), (fun hh => nomatch hh), fun _ => ⟨if_pos ⟨rfl, rfl⟩, hv, by unfold mCand; simp, fun v hvv => ?_, fun hh => ?_, by show 1 ≤ p.Term + 1; omega⟩, fun T k he hT hk hb => ?_, fun T hT => h.acl T (by have : p.Term + 1 < T := hT; omega), fun T hT => by have := h.ldl T hT; show T ≤ p.Term + 1; omega, h.com0, ?_, ⟨by show 0 ≤ p.Term + 1; omega, by show p.Term + 1 ≤ 1000000; omega⟩, by unfold mCand; simp; omega, Nat.zero_le _, Nat.zero_le _⟩
  · have htt' : p.Term + 1 < t := htt
    show (if i = i ∧ t = p.Term + 1 then (i : Int) + 1 else g.vt i t) = 0
    rw [if_neg (by omega)]; exact h.later t (by omega)
  · have hvv' : ((List.replicate n false).set i true)[v]? = some true := hvv
    by_cases hf : v = i
    · rw [hf]; exact hv
    · rw [List.getElem?_set_ne (fun hh => hf hh.symm), List.getElem?_replicate] at hvv'
      split at hvv' <;> cases hvv'
  · have := h.ldl _ hh
    have : (mCand n i p).Term = p.Term + 1 := rfl
    omega
  · by_cases hT2 : T ≤ p.Term
    · exact h.z T k he hT2 hk fun U a b c => hb U a (by show U ≤ p.Term + 1; omega) c
    · have hk' : k ≤ g.ac T i := hk
      rw [h.acl T (by omega)] at hk'
      have := he.1; omega
  · rcases h.com with a | ⟨T, k, a, b, c, d⟩
    · exact .inl a
    · exact .inr ⟨T, k, hs.com a, by show T ≤ p.Term + 1; omega, c, d⟩
noncomputable def Gh.grant (g : Gh) (i : Nat) (U : Int) (f : Nat) : Gh :=
  { g with vt := fun v t => if v = i ∧ t = U then (f : Int) + 1 else g.vt v t, ev := fun t v => g.ev t v ∨ (t = U ∧ v = i ∧ g.ld U = none) }
theorem grant_step {g : Gh} {n i f : Nat} {p : GPeer} (h : PInv g n i p) (hz : p.Vote = 0) : GStep i p.Term g (g.grant i p.Term f) := by
  have hz : g.vt i p.Term = 0 := by rw [h.vote]; exact hz
  refine ⟨⟨fun v t hv => ?_, fun _ _ h => h, fun T => ⟨[], by show g.L T = _; simp⟩, fun T k _ h1 h2 => by have h3 : k ≤ (g.L T).length := h2; omega, fun U c hc => rfl, fun _ _ => Nat.le_refl _, fun _ _ h => .inl h⟩, fun v t hv => ?_, fun _ _ _ => rfl, fun _ _ h => .inl h, fun _ _ => rfl, fun U c hc => rfl, fun _ _ => rfl, fun U w hw => ?_, h.vtI⟩
  · show (if v = i ∧ t = p.Term then (f : Int) + 1 else g.vt v t) = g.vt v t
    rw [if_neg]; rintro ⟨rfl, rfl⟩; exact hv hz
  · show (if v = i ∧ t = p.Term then (f : Int) + 1 else g.vt v t) = g.vt v t
    rw [if_neg]; rintro ⟨rfl, _⟩; exact hv rfl
  · rcases hw with hw | ⟨rfl, rfl, _⟩
    · exact .inl hw
    · exact .inr ⟨rfl, hz⟩
theorem uptodate {g : Gh} {n : Nat} (hg : GInv g n) {l cl : List GRec} {t U T : Int} {k : Nat} (hl : GoodLog g t l) (hcl : GoodLog g (U - 1) cl) (hT : T < U) (he : Ent g T k) (hp : Pre k l (g.L T))
    (hb : ∀ U', T < U' → U' < U → g.ld U' ≠ none → Pre k (g.L U') (g.L T))
    (hup : tn l l.length < tn cl cl.length ∨ (tn cl cl.length = tn l l.length ∧ l.length ≤ cl.length)) : Pre k cl (g.L T) := by
  obtain ⟨k1, k2, k3⟩ := he
  have hkt : tn l k = T := by rw [hp.tn (Nat.le_refl _)]; exact k3
  have hTl : T ≤ tn l l.length := by rw [← hkt]; exact hl.rise hg k1 hp.1 (Nat.le_refl _)
  have hT1 : 1 ≤ T := by rw [← hkt]; exact (hl.ent k k1 hp.1).1
  have hclen : 1 ≤ cl.length := by
    rcases Nat.eq_zero_or_pos cl.length with h0 | h0
    · have : tn cl cl.length = 0 := by rw [h0]; rfl
      omega
    · exact h0
  obtain ⟨e1, e2, e3⟩ := hcl.ent cl.length hclen (Nat.le_refl _)
  by_cases hB : tn cl cl.length = T
  ·
    have hlen : k ≤ cl.length := by
      rcases hup with h1 | h1
      · omega
      · have := hp.1; omega
    rw [hB] at e3
    exact e3.mono hlen
  · have hBT : T < tn cl cl.length := by
      rcases hup with h1 | h1 <;> omega
    have hne : g.ld (tn cl cl.length) ≠ none := fun hn => by
      have := hg.none _ hn
      have h2 := e3.2.1
      rw [this] at h2
      have h3 : cl.length ≤ 0 := h2
      omega
    have hag := hb _ hBT (by omega) hne
    have hkl : k ≤ cl.length := by
      rcases Nat.lt_or_ge cl.length k with h1 | h1
      · have h2 := (hg.log (tn cl cl.length)).rise hg hclen (Nat.le_of_lt h1) hag.1
        have h3 : tn (g.L (tn cl cl.length)) k = T := by rw [hag.tn (Nat.le_refl _)]; exact k3
        have h4 := e3.tn (Nat.le_refl _)
        omega
      · exact h1
    exact (e3.mono hkl).trans hag
theorem grant_inv {g : Gh} {n i f : Nat} {p : GPeer} (hg : GInv g n) (hi : i < n) (h : PInv g n i p) (hz : p.Vote = 0) (hf : f < n) (hv : g.vt f p.Term = (f : Int) + 1)
    (hup : tn p.Log p.Log.length < tn (g.cl p.Term f) (g.cl p.Term f).length ∨ (tn (g.cl p.Term f) (g.cl p.Term f).length = tn p.Log p.Log.length ∧ p.Log.length ≤ (g.cl p.Term f).length)) : GInv (g.grant i p.Term f) n := by
  have hs := grant_step (f := f) h hz
  have hz0 : g.vt i p.Term = 0 := by rw [h.vote]; exact hz
  refine hs.inv hg (fun T hT => hs.good (hg.log T)) (fun T hT => .inl hT) (fun T => hg.ac T i) (fun T hT => hg.ext T i hT) (fun U c hin hzz hvv => ?_) (fun U hin hvv => ?_) ?_
  · have hv' : (if i = i ∧ U = p.Term then (f : Int) + 1 else g.vt i U) = (c : Int) + 1 := hvv
    by_cases hU : U = p.Term
    · subst hU
      rw [if_pos ⟨rfl, rfl⟩] at hv'
      have hc : c = f := by omega
      subst hc
      refine ⟨⟨hf, ?_⟩, hs.good (hg.cl c p.Term c hf hv), fun hn => .inr ⟨rfl, rfl, hn⟩, fun hev T k hT he hk hb => ?_⟩
      · show (if c = i ∧ p.Term = p.Term then (c : Int) + 1 else g.vt c p.Term) = _
        rw [if_neg]
        · exact hv
        · rintro ⟨rfl, _⟩; omega
      · have hn : g.ld p.Term = none := by
          rcases hev with hev | ⟨_, _, hn⟩
          · exact absurd hz0 (hg.evv _ _ hi hev)
          · exact hn
        have hz2 := h.z T k he (by omega) hk fun U' a b d => by
          rcases Int.lt_or_eq_of_le b with b2 | b2
          · exact hb U' a b2 d
          · rw [b2] at d; exact absurd hn d
        exact uptodate hg h.log (hg.cl c p.Term c hf hv) hT he hz2 hb hup
    · rw [if_neg (fun hh => hU hh.2)] at hv'
      omega
  · by_cases hU : U = p.Term
    · exact ⟨f, by show (if i = i ∧ U = p.Term then (f : Int) + 1 else g.vt i U) = _; rw [if_pos ⟨rfl, hU⟩]⟩
    · have hv' : (if i = i ∧ U = p.Term then (f : Int) + 1 else g.vt i U) ≠ 0 := hvv
      rw [if_neg (fun hh => hU hh.2)] at hv'
      obtain ⟨c, e⟩ := hg.form i U hin hv'
      exact ⟨c, by show (if i = i ∧ U = p.Term then (f : Int) + 1 else g.vt i U) = _; rw [if_neg (fun hh => hU hh.2)]; exact e⟩
  · intro U hin he
    rcases he with he | ⟨rfl, _, _⟩
    · rw [hs.vt i U (hg.evv U i hin he)]; exact hg.evv U i hin he
    · show (if i = i ∧ p.Term = p.Term then (f : Int) + 1 else g.vt i p.Term) ≠ 0
      rw [if_pos ⟨rfl, rfl⟩]; omega
end Go.Proofs.YtlpcdcpcfeaecaaAb
end
