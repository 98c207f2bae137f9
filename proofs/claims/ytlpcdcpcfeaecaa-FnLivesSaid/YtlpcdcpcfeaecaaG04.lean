import Derived.Test.YtlpcdcpcfeaecaaG03
set_option linter.all false
set_option maxRecDepth 20000
namespace Go.Proofs.YtlpcdcpcfeaecaaAb
open Go Go.Proofs
theorem f_impl_Cluster_take_k {Δ : Prims} (g : Env Try.prog Δ) {lo n0 : Nat} {H0 F0 : Heap} (hS : St lo n0 H0 F0) {p0 : Nat} {x1 : GCluster} {ez0 : Nat} {a2 : Option Addr} {cap3 : Nat} {S6 : Nat → Prop} {a7 : Option Addr} {cap8 : Nat} {a11 : Option Addr} {cap12 : Nat} {x18 : GMsg} {a19 : Option Addr} {cap20 : Nat} {x22 : GMsg} {a23 : Option Addr} {cap24 : Nat} (ho15 : H0 p0 = some (.row ez0 [.slice a2 x1.Peers.length cap3, .slice a7 x1.Net.length cap8, .slice a11 x1.Chosen.length cap12, .bool x1.Conflict])) (fo16 : F0 p0 = none) (lo17 : lo ≤ p0) (h4 : OD lo n0 H0 F0 S6 [] (.slice a2 x1.Peers.length cap3) x1.Peers) (h9 : OW lo n0 H0 F0 (.slice a7 x1.Net.length cap8) x1.Net) (h13 : OW lo n0 H0 F0 (.slice a11 x1.Chosen.length cap12) x1.Chosen) (h21 : SR F0 (.slice a19 x18.Log.length cap20) x18.Log) (h25 : SR F0 (.slice a23 x22.Log.length cap24) x22.Log) (ap26 : ¬ S6 p0) (ap27 : idOf (.slice a7 x1.Net.length cap8) ≠ some p0) (ap28 : ∀ b, idOf (.slice a7 x1.Net.length cap8) = some b → ¬ S6 b) (ap29 : idOf (.slice a11 x1.Chosen.length cap12) ≠ some p0) (ap30 : ∀ b, idOf (.slice a11 x1.Chosen.length cap12) = some b → ¬ S6 b) (ap31 : ∀ b, idOf (.slice a11 x1.Chosen.length cap12) = some b → idOf (.slice a7 x1.Net.length cap8) ≠ some b) {res : (GCluster)} (hr : f_impl_Cluster_take x1 x18 x22 = some res) :
    C Try.prog Δ lo 88 [.pointer (some ⟨p0, 0, none⟩), .agg [.int .i64 x18.Kind, .int .i64 x18.From, .int .i64 x18.To, .int .i64 x18.Term, .int .i64 x18.A, .int .i64 x18.B, .int .i64 x18.C, .bool x18.Ok, .slice a19 x18.Log.length cap20].toArray, .agg [.int .i64 x22.Kind, .int .i64 x22.From, .int .i64 x22.To, .int .i64 x22.Term, .int .i64 x22.A, .int .i64 x22.B, .int .i64 x22.C, .bool x22.Ok, .slice a23 x22.Log.length cap24].toArray] n0 H0 (fun v n H => ∃ (F : Heap) (rS2 : Nat → Prop) (ra4 : Option Addr) (rcap5 : Nat) (ra7 : Option Addr) (rcap8 : Nat), Ext n0 F0 n F ∧ St lo n H F ∧ H p0 = some (.row ez0 [.slice a2 x1.Peers.length cap3, .slice ra4 res.Net.length rcap5, .slice ra7 res.Chosen.length rcap8, .bool res.Conflict]) ∧ v = .tuple #[] ∧ OD lo n H F rS2 [] (.slice a2 x1.Peers.length cap3) res.Peers ∧ x1.Peers.length = res.Peers.length ∧ OW lo n H F (.slice ra4 res.Net.length rcap5) res.Net ∧ OW lo n H F (.slice ra7 res.Chosen.length rcap8) res.Chosen ∧ ¬ rS2 p0 ∧ idOf (.slice ra4 res.Net.length rcap5) ≠ some p0 ∧ idOf (.slice ra7 res.Chosen.length rcap8) ≠ some p0 ∧ (∀ b, idOf (.slice ra4 res.Net.length rcap5) = some b → ¬ rS2 b) ∧ (∀ b, idOf (.slice ra7 res.Chosen.length rcap8) = some b → ¬ rS2 b) ∧ (∀ b, idOf (.slice ra7 res.Chosen.length rcap8) = some b → idOf (.slice ra4 res.Net.length rcap5) ≠ some b)) := by
 refine C.body Try.func88 rfl rfl ?_
 unfold f_impl_Cluster_take at hr
 have hS0 : St lo n0 H0 F0 := hS
 have hE0 := Ext.refl n0 F0
 have hlo0 := hS0.lo
 have lt0 := hS0.lt ho15
 with_reducible refine W.seq ?_
 with_reducible refine W.region ?_
 refine GL.box hS0 .nil (vc := [.int .i64 x18.Kind, .int .i64 x18.From, .int .i64 x18.To, .int .i64 x18.Term, .int .i64 x18.A, .int .i64 x18.B, .int .i64 x18.C, .bool x18.Ok, .slice a19 x18.Log.length cap20]) rfl rfl rfl rfl rfl (by repeat' (first | exact List.forall_mem_nil _ | refine List.forall_mem_cons.2 ⟨?_, ?_⟩ | rfl)) (fun H32 hS33 ho34 hk35 => ?_)
 have fo36 := hS0.fnone (Nat.le_refl _)
 have ho38 := (hk35 _ (by have := lt0; omega)).trans ho15
 have h39 := OD.keep (n' := (n0 + 1)) h4 (by omega) (fun i hi => hk35 i (OD.id_lt h4 hi).2)
 have h40 := OW.keep (n' := (n0 + 1)) h9 (by omega) (fun i hi => hk35 i (OW.id_lt h9 hi).2)
 have h41 := OW.keep (n' := (n0 + 1)) h13 (by omega) (fun i hi => hk35 i (OW.id_lt h13 hi).2)
 have hlon01 := hS33.lo
 have lt37 : n0 < (n0 + 1) := by omega
 refine GL.box hS33 .nil (vc := [.int .i64 x22.Kind, .int .i64 x22.From, .int .i64 x22.To, .int .i64 x22.Term, .int .i64 x22.A, .int .i64 x22.B, .int .i64 x22.C, .bool x22.Ok, .slice a23 x22.Log.length cap24]) rfl rfl rfl rfl rfl (by repeat' (first | exact List.forall_mem_nil _ | refine List.forall_mem_cons.2 ⟨?_, ?_⟩ | rfl)) (fun H42 hS43 ho44 hk45 => ?_)
 have fo46 := hS33.fnone (Nat.le_refl _)
 have ho48 := (hk45 _ (by have := lt0; omega)).trans ho38
 have ho49 := (hk45 _ (by have := lt37; omega)).trans ho34
 have h50 := OD.keep (n' := ((n0 + 1) + 1)) h39 (by omega) (fun i hi => hk45 i (OD.id_lt h39 hi).2)
 have h51 := OW.keep (n' := ((n0 + 1) + 1)) h40 (by omega) (fun i hi => hk45 i (OW.id_lt h40 hi).2)
 have h52 := OW.keep (n' := ((n0 + 1) + 1)) h41 (by omega) (fun i hi => hk45 i (OW.id_lt h41 hi).2)
 have hlon011 := hS43.lo
 have lt47 : (n0 + 1) < ((n0 + 1) + 1) := by omega
 refine WL.nil ?_
 refine Ex.thn_norm ?_
 with_reducible refine W.seq ?_
 refine W.regionD [0, 1, 2, 3, 4, 5, 6, 7] [false, false, false, false, false, false, false, false] rfl rfl (by kernel_rfl) (by kernel_rfl) (by (conv => lhs; simp only [List.map_cons, List.map_nil, List.getD_cons_zero, List.getD_cons_succ]) <;> rfl) ?_
 refine WL.move .r rfl rfl rfl rfl ?_
 refine WL.nilCheck .r rfl rfl rfl rfl ?_
 refine WL.fieldAddr .r rfl rfl rfl Try.underlying30 rfl info26 rfl rfl ?_
 refine WL.load1 .r rfl rfl rfl Try.underlying26 rfl rfl ho48 rfl ?_
 refine WL.fieldAddr .r rfl rfl rfl Try.underlying85 rfl info3 rfl rfl ?_
 refine WL.load1 .r rfl rfl rfl Try.underlying3 rfl rfl ho49 rfl ?_
 obtain ⟨x53, hx53, hr⟩ := bnd_some hr
 refine GL.indexD .r rfl rfl rfl Try.underlying26 info42 rfl rfl h50 rfl hx53 (fun b54 el55 hp56 => ?_)
 refine WL.assign .r rfl rfl rfl rfl ?_
 refine WL.nil ?_
 refine Ex.thn_norm ?_
 with_reducible refine W.seq ?_
 with_reducible refine W.region ?_
 refine WL.fieldAddr .nil rfl rfl rfl Try.underlying85 rfl info3 rfl rfl ?_
 refine GL.store hS43 .nil (vc := [.int .i64 4]) (c' := [.int .i64 4, .int .i64 x22.From, .int .i64 x22.To, .int .i64 x22.Term, .int .i64 x22.A, .int .i64 x22.B, .int .i64 x22.C, .bool x22.Ok, .slice a23 x22.Log.length cap24]) rfl rfl rfl info3 rfl rfl rfl rfl ho44 fo46 (Nat.le_of_ble_eq_true rfl) (by omega) (one1 rfl) rfl (fun H57 hS58 ho59 hk60 => ?_)
 have ho61 := (hk60 _ (by omega)).trans ho48
 have ho62 := (hk60 _ (by omega)).trans ho49
 have h63 := OD.keep h50 (Nat.le_refl _) (fun i hi => hk60 i (fun hj => (Ap.alloc (OD.hb h39)) (hj ▸ hi)))
 have h64 := OW.keep h51 (Nat.le_refl _) (fun i hi => hk60 i (fun hj => (Ap.alloc (OW.hb h40)) (hj ▸ hi)))
 have h65 := OW.keep h52 (Nat.le_refl _) (fun i hi => hk60 i (fun hj => (Ap.alloc (OW.hb h41)) (hj ▸ hi)))
 refine WL.nil ?_
 refine Ex.thn_norm ?_
 with_reducible refine W.seq ?_
 with_reducible refine W.seq ?_
 refine W.regionD [0, 1, 2, 3, 4, 5, 6] [false, false, false, false, false, false, false] rfl rfl (by kernel_rfl) (by kernel_rfl) (by (conv => lhs; simp only [List.map_cons, List.map_nil, List.getD_cons_zero, List.getD_cons_succ]) <;> rfl) ?_
 refine WL.fieldAddr .r rfl rfl rfl Try.underlying85 rfl info3 rfl rfl ?_
 refine WL.load1 .r rfl rfl rfl Try.underlying3 rfl rfl ho62 rfl ?_
 refine WL.move .r rfl rfl rfl rfl ?_
 refine WL.nilCheck .r rfl rfl rfl rfl ?_
 refine WL.fieldAddr .r rfl rfl rfl Try.underlying42 rfl info3 rfl rfl ?_
 obtain ⟨c66, ecs67, hrow68, hwin69, hb70⟩ := OD.get h63 hp56 hx53
 obtain ⟨a71, cap72, a73, cap74, a75, cap76, a77, cap78, rfl⟩ := GPeer.ofB hb70
 refine WL.load1 .r rfl rfl rfl Try.underlying3 rfl rfl hrow68 ((win_get (m := 1) hwin69 (show (1 : Nat) < 9 by decide)).trans rfl) ?_
 refine WL.bin .r rfl rfl rfl rfl rfl rfl ?_
 refine WL.nil ?_
 refine Ex.thn_norm ?_
 refine W.condD rfl (fun hc141 => ?_) (fun hc141 => ?_)
 {
 replace hr := ite_pos hr hc141
 with_reducible refine W.seq ?_
 with_reducible refine W.region ?_
 refine WL.move .nil rfl rfl rfl rfl ?_
 refine WL.nilCheck .nil rfl rfl rfl rfl ?_
 refine WL.fieldAddr .nil rfl rfl rfl Try.underlying42 rfl info3 rfl rfl ?_
 refine WL.load1 .nil rfl rfl rfl Try.underlying3 rfl rfl hrow68 ((win_get (m := 1) hwin69 (show (1 : Nat) < 9 by decide)).trans rfl) ?_
 refine WL.fieldAddr .nil rfl rfl rfl Try.underlying85 rfl info3 rfl rfl ?_
 refine GL.store hS58 .nil (vc := [.int .i64 x53.Term]) (c' := [.int .i64 4, .int .i64 x22.From, .int .i64 x22.To, .int .i64 x53.Term, .int .i64 x22.A, .int .i64 x22.B, .int .i64 x22.C, .bool x22.Ok, .slice a23 x22.Log.length cap24]) rfl rfl rfl info3 rfl rfl rfl rfl ho59 fo46 (Nat.le_of_ble_eq_true rfl) (by omega) (one1 rfl) rfl (fun H142 hS143 ho144 hk145 => ?_)
 have ho146 := (hk145 _ (by omega)).trans ho61
 have ho147 := (hk145 _ (by omega)).trans ho62
 have h148 := OD.keep h63 (Nat.le_refl _) (fun i hi => hk145 i (fun hj => (Ap.alloc (OD.hb h39)) (hj ▸ hi)))
 have h149 := OW.keep h64 (Nat.le_refl _) (fun i hi => hk145 i (fun hj => (Ap.alloc (OW.hb h40)) (hj ▸ hi)))
 have h150 := OW.keep h65 (Nat.le_refl _) (fun i hi => hk145 i (fun hj => (Ap.alloc (OW.hb h41)) (hj ▸ hi)))
 refine WL.nil ?_
 refine Ex.thn_norm ?_
 with_reducible refine W.seq ?_
 with_reducible refine W.region ?_
 refine WL.move .nil rfl rfl rfl rfl ?_
 refine WL.loadN .nil (l' := [.int .i64 4, .int .i64 x22.From, .int .i64 x22.To, .int .i64 x53.Term, .int .i64 x22.A, .int .i64 x22.B, .int .i64 x22.C, .bool x22.Ok, .slice a23 x22.Log.length cap24]) rfl rfl rfl Try.underlying85 rfl info85 rfl ho144 rfl rfl ?_
 obtain ⟨x151, hx151, hr⟩ := bnd_some hr
 refine GL.callIO g .nil (fun i => (F0 i).isSome = true ∨ i = p0 ∨ S6 i ∨ idOf (.slice a7 x1.Net.length cap8) = some i ∨ idOf (.slice a11 x1.Chosen.length cap12) = some i) rfl rfl rfl rfl rfl rfl Try.func55 rfl rfl (Nat.le_refl _) hS143.lo (f_impl_Cluster_send_k (x1 := ({ Peers := x1.Peers, Net := x1.Net, Chosen := x1.Chosen, Conflict := x1.Conflict } : GCluster)) (x18 := ({ Kind := 4, From := x22.From, To := x22.To, Term := x53.Term, A := x22.A, B := x22.B, C := x22.C, Ok := x22.Ok, Log := x22.Log } : GMsg)) g (St.vis hS143 (fun i hi => .inl hi)) (vis_get ho146 (.inr (.inl rfl))) fo16 lo17 (OD.vis h148 (fun i hi => (.inr (.inr (.inl hi))))) (OW.vis h149 (fun i hi => (.inr (.inr (.inr (.inl hi)))))) (OW.vis h150 (fun i hi => (.inr (.inr (.inr (.inr (hi))))))) h25 ap26 ap27 ap28 ap29 ap30 ap31 hx151) (fun v n152 H153 H154 hn155 hp156 hle157 hnew158 hk159 hd160 => ?_)
 obtain ⟨F171, S162, a164, cap165, a167, cap168, hX172, hS170, ho173, rfl, h161, hl163, h166, h169, ap174, ap175, ap176, ap177, ap178, ap179⟩ := hp156
 have hS180 : St lo n152 H153 _ := ⟨hS170.lo, fun i hi => (hnew158 i (by omega)).trans (hS170.hb i hi), hS170.fh.trans hle157⟩
 have ho181 := (hk159 _ (by have := lt37; omega) (fun hs => by
      rcases hs with h | h | h | h | h
      · rw [fo36] at h; cases h
      · omega
      · exact (Ap.alloc (OD.hb h4)) h
      · exact (Ap.alloc (OW.hb h9)) h
      · exact (Ap.alloc (OW.hb h13)) h)).trans ho147
 have ho182 := (hk159 _ (by have := lt47; omega) (fun hs => by
      rcases hs with h | h | h | h | h
      · rw [fo46] at h; cases h
      · omega
      · exact (Ap.alloc (OD.hb h39)) h
      · exact (Ap.alloc (OW.hb h40)) h
      · exact (Ap.alloc (OW.hb h41)) h)).trans ho144
 have fo183 := (hX172.eq _ (by have := lt0; omega)).trans fo16
 have fo184 := (hX172.eq _ (by have := lt37; omega)).trans fo36
 have fo185 := (hX172.eq _ (by have := lt47; omega)).trans fo46
 have hE186 := (hE0.up (n' := ((n0 + 1) + 1)) (by omega)).trans hX172
 have ho187 := hle157 _ _ ho173
 have h188 := OD.le h161 hle157
 have hl189 : x1.Peers.length = x151.Peers.length := hl163
 have h191 := OW.le h166 hle157
 have h193 := OW.le h169 hle157
 have ap194 : ¬ S162 n0 := fun hj => (OD.after h161 hd160 hj).elim (fun h => by have := lt37; omega) (fun hs => by
      rcases hs with h | h | h | h | h
      · rw [fo36] at h; cases h
      · omega
      · exact (Ap.alloc (OD.hb h4)) h
      · exact (Ap.alloc (OW.hb h9)) h
      · exact (Ap.alloc (OW.hb h13)) h)
 have ap195 : ¬ S162 (n0 + 1) := fun hj => (OD.after h161 hd160 hj).elim (fun h => by have := lt47; omega) (fun hs => by
      rcases hs with h | h | h | h | h
      · rw [fo46] at h; cases h
      · omega
      · exact (Ap.alloc (OD.hb h39)) h
      · exact (Ap.alloc (OW.hb h40)) h
      · exact (Ap.alloc (OW.hb h41)) h)
 have ap196 : idOf (.slice a164 x151.Net.length cap165) ≠ some n0 := fun hj => (OW.after h166 hd160 hj).elim (fun h => by have := lt37; omega) (fun hs => by
      rcases hs with h | h | h | h | h
      · rw [fo36] at h; cases h
      · omega
      · exact (Ap.alloc (OD.hb h4)) h
      · exact (Ap.alloc (OW.hb h9)) h
      · exact (Ap.alloc (OW.hb h13)) h)
 have ap197 : idOf (.slice a164 x151.Net.length cap165) ≠ some (n0 + 1) := fun hj => (OW.after h166 hd160 hj).elim (fun h => by have := lt47; omega) (fun hs => by
      rcases hs with h | h | h | h | h
      · rw [fo46] at h; cases h
      · omega
      · exact (Ap.alloc (OD.hb h39)) h
      · exact (Ap.alloc (OW.hb h40)) h
      · exact (Ap.alloc (OW.hb h41)) h)
 have ap198 : idOf (.slice a167 x151.Chosen.length cap168) ≠ some n0 := fun hj => (OW.after h169 hd160 hj).elim (fun h => by have := lt37; omega) (fun hs => by
      rcases hs with h | h | h | h | h
      · rw [fo36] at h; cases h
      · omega
      · exact (Ap.alloc (OD.hb h4)) h
      · exact (Ap.alloc (OW.hb h9)) h
      · exact (Ap.alloc (OW.hb h13)) h)
 have ap199 : idOf (.slice a167 x151.Chosen.length cap168) ≠ some (n0 + 1) := fun hj => (OW.after h169 hd160 hj).elim (fun h => by have := lt47; omega) (fun hs => by
      rcases hs with h | h | h | h | h
      · rw [fo46] at h; cases h
      · omega
      · exact (Ap.alloc (OD.hb h39)) h
      · exact (Ap.alloc (OW.hb h40)) h
      · exact (Ap.alloc (OW.hb h41)) h)
 have hlon152 := hS180.lo
 have lt200 := hS180.lt ho187
 have lt201 := hS180.lt ho181
 have lt202 := hS180.lt ho182
 refine WL.nil ?_
 refine Ex.thn_norm ?_
 with_reducible refine W.ret ?_
 with_reducible refine Ex.thn_ret ?_
 obtain rfl := Option.some.inj hr
 exact ⟨.inr rfl, _, .nil, ⟨F171, S162, a164, cap165, a167, cap168, (hE186.up (by omega)), hS180, ho187, rfl, h188, hl189, h191, h193, ap174, ap175, ap176, ap177, ap178, ap179⟩⟩
 }
 {
 replace hr := ite_neg hr hc141
 with_reducible refine W.skip ?_
 refine Ex.thn_norm ?_
 with_reducible refine W.seq ?_
 with_reducible refine W.region ?_
 refine WL.move .nil rfl rfl rfl rfl ?_
 refine WL.fieldAddr .nil rfl rfl rfl Try.underlying85 rfl info3 rfl rfl ?_
 refine WL.load1 .nil rfl rfl rfl Try.underlying3 rfl rfl ho62 rfl ?_
 refine GL.callIn (args := [.pointer (some ⟨b54, el55, none⟩), .int .i64 x18.Term]) .nil lo rfl rfl rfl rfl rfl rfl Try.func85 rfl rfl (Nat.le_refl _) hS58.lo ?_
 refine C.body Try.func85 rfl rfl ?_
 with_reducible refine W.seq ?_
 with_reducible refine W.seq ?_
 with_reducible refine W.region ?_
 refine WL.move .nil rfl rfl rfl rfl ?_
 refine WL.move .nil rfl rfl rfl rfl ?_
 refine WL.nilCheck .nil rfl rfl rfl rfl ?_
 refine WL.fieldAddr .nil rfl rfl rfl Try.underlying42 rfl info3 rfl rfl ?_
 refine WL.load1 .nil rfl rfl rfl Try.underlying3 rfl rfl hrow68 ((win_get (m := 1) hwin69 (show (1 : Nat) < 9 by decide)).trans rfl) ?_
 refine WL.bin .nil rfl rfl rfl rfl rfl rfl ?_
 refine WL.nil ?_
 refine Ex.thn_norm ?_
 refine W.cut (fun fr n H => ∃ (xs252 : (List GPeer)) (S255 : Nat → Prop) (F : Heap), fr = [(0, .pointer (some ⟨b54, el55, none⟩))] ∧ St lo n H F ∧ Ext n0 F0 n F ∧ H (n0 + 1) = some (.row 1 [.int .i64 4, .int .i64 x22.From, .int .i64 x22.To, .int .i64 x22.Term, .int .i64 x22.A, .int .i64 x22.B, .int .i64 x22.C, .bool x22.Ok, .slice a23 x22.Log.length cap24]) ∧ F (n0 + 1) = none ∧ H n0 = some (.row 1 [.int .i64 x18.Kind, .int .i64 x18.From, .int .i64 x18.To, .int .i64 x18.Term, .int .i64 x18.A, .int .i64 x18.B, .int .i64 x18.C, .bool x18.Ok, .slice a19 x18.Log.length cap20]) ∧ F n0 = none ∧ H p0 = some (.row ez0 [.slice a2 x1.Peers.length cap3, .slice a7 x1.Net.length cap8, .slice a11 x1.Chosen.length cap12, .bool x1.Conflict]) ∧ F p0 = none ∧ SR F (.slice a23 x22.Log.length cap24) x22.Log ∧ SR F (.slice a19 x18.Log.length cap20) x18.Log ∧ OD lo n H F S255 [] (.slice a2 x1.Peers.length cap3) xs252 ∧ x1.Peers.length = xs252.length ∧ OW lo n H F (.slice a7 x1.Net.length cap8) x1.Net ∧ OW lo n H F (.slice a11 x1.Chosen.length cap12) x1.Chosen ∧ ¬ S255 (n0 + 1) ∧ ¬ S255 n0 ∧ ¬ S255 p0 ∧ idOf (.slice a7 x1.Net.length cap8) ≠ some (n0 + 1) ∧ idOf (.slice a7 x1.Net.length cap8) ≠ some n0 ∧ idOf (.slice a7 x1.Net.length cap8) ≠ some p0 ∧ (∀ b, idOf (.slice a7 x1.Net.length cap8) = some b → ¬ S255 b) ∧ idOf (.slice a11 x1.Chosen.length cap12) ≠ some (n0 + 1) ∧ idOf (.slice a11 x1.Chosen.length cap12) ≠ some n0 ∧ idOf (.slice a11 x1.Chosen.length cap12) ≠ some p0 ∧ (∀ b, idOf (.slice a11 x1.Chosen.length cap12) = some b → ¬ S255 b) ∧ (∀ b, idOf (.slice a11 x1.Chosen.length cap12) = some b → idOf (.slice a7 x1.Net.length cap8) ≠ some b) ∧ f_impl_Cluster_take_J0 x18 x1 x22 xs252 = some res) ?_ ?_
 {
 refine W.condD rfl (fun hc7092 => ?_) (fun hc7092 => ?_)
 {
 replace hr := ite_pos hr hc7092
 with_reducible refine W.region ?_
 refine WL.move .nil rfl rfl rfl rfl ?_
 refine WL.move .nil rfl rfl rfl rfl ?_
 refine WL.move .nil rfl rfl rfl rfl ?_
 refine WL.nilCheck .nil rfl rfl rfl rfl ?_
 refine WL.fieldAddr .nil rfl rfl rfl Try.underlying42 rfl info3 rfl rfl ?_
 refine GL.store hS58 .nil (vc := [.int .i64 x18.Term]) rfl rfl rfl info3 rfl rfl rfl rfl hrow68 (OD.fnone h63 (OD.bS h63 hp56)) (win_fit2 hwin69 (Nat.le_of_ble_eq_true rfl) rfl (Nat.le_of_ble_eq_true rfl)) (by have := (OD.id_lt h63 (OD.bS h63 hp56)).1; omega) (one1 rfl) rfl (fun H7093 hS7094 ho7095 hk7096 => ?_)
 have ho7097 := (hk7096 p0 (fun hj => ap26 (by rw [hj]; exact (OD.bS h63 hp56)))).trans ho61
 have ho7098 := (hk7096 n0 (fun hj => (Ap.alloc (OD.hb h4)) (by rw [hj]; exact (OD.bS h63 hp56)))).trans ho62
 have ho7099 := (hk7096 (n0 + 1) (fun hj => (Ap.alloc (OD.hb h39)) (by rw [hj]; exact (OD.bS h63 hp56)))).trans ho59
 have h7100 := OW.keep h64 (Nat.le_refl _) (fun i hi => hk7096 i (fun hj => ap28 i hi (by rw [hj]; exact (OD.bS h63 hp56))))
 have h7101 := OW.keep h65 (Nat.le_refl _) (fun i hi => hk7096 i (fun hj => ap30 i hi (by rw [hj]; exact (OD.bS h63 hp56))))
 have h7102 := GPeer.put_Term h63 hp56 hx53 hrow68 hwin69 (w := x18.Term) ho7095 hk7096
 have hl7103 : x1.Peers.length = (setI x1.Peers x18.To ({ Up := x53.Up, Term := x18.Term, Vote := x53.Vote, Commit := x53.Commit, Role := x53.Role, Log := x53.Log, Votes := x53.Votes, Next := x53.Next, Match := x53.Match } : GPeer)).length := (setI_length _ _ _).symm
 have hx7104 : idx (setI x1.Peers x18.To ({ Up := x53.Up, Term := x18.Term, Vote := x53.Vote, Commit := x53.Commit, Role := x53.Role, Log := x53.Log, Votes := x53.Votes, Next := x53.Next, Match := x53.Match } : GPeer)) x18.To = some ({ Up := x53.Up, Term := x18.Term, Vote := x53.Vote, Commit := x53.Commit, Role := x53.Role, Log := x53.Log, Votes := x53.Votes, Next := x53.Next, Match := x53.Match } : GPeer) := idx_setI_same hx53
 refine WL.nilCheck .nil rfl rfl rfl rfl ?_
 refine WL.fieldAddr .nil rfl rfl rfl Try.underlying42 rfl info3 rfl rfl ?_
 obtain ⟨c7105, ecs7106, hrow7107, hwin7108, hb7109⟩ := OD.get h7102 hp56 hx7104
 obtain ⟨a7110, cap7111, a7112, cap7113, a7114, cap7115, a7116, cap7117, rfl⟩ := GPeer.ofB hb7109
 refine GL.store hS7094 .nil (vc := [.int .i64 0]) rfl rfl rfl info3 rfl rfl rfl rfl hrow7107 (OD.fnone h7102 (OD.bS h7102 hp56)) (win_fit2 hwin7108 (Nat.le_of_ble_eq_true rfl) rfl (Nat.le_of_ble_eq_true rfl)) (by have := (OD.id_lt h7102 (OD.bS h7102 hp56)).1; omega) (one1 rfl) rfl (fun H7118 hS7119 ho7120 hk7121 => ?_)
 have ho7122 := (hk7121 p0 (fun hj => ap26 (by rw [hj]; exact (OD.bS h7102 hp56)))).trans ho7097
 have ho7123 := (hk7121 n0 (fun hj => (Ap.alloc (OD.hb h4)) (by rw [hj]; exact (OD.bS h7102 hp56)))).trans ho7098
 have ho7124 := (hk7121 (n0 + 1) (fun hj => (Ap.alloc (OD.hb h39)) (by rw [hj]; exact (OD.bS h7102 hp56)))).trans ho7099
 have h7125 := OW.keep h7100 (Nat.le_refl _) (fun i hi => hk7121 i (fun hj => ap28 i hi (by rw [hj]; exact (OD.bS h7102 hp56))))
 have h7126 := OW.keep h7101 (Nat.le_refl _) (fun i hi => hk7121 i (fun hj => ap30 i hi (by rw [hj]; exact (OD.bS h7102 hp56))))
 have h7127 := GPeer.put_Vote h7102 hp56 hx7104 hrow7107 hwin7108 (w := 0) ho7120 hk7121
 rw [setI_setI] at h7127
 have hl7128 : x1.Peers.length = (setI x1.Peers x18.To ({ Up := x53.Up, Term := x18.Term, Vote := 0, Commit := x53.Commit, Role := x53.Role, Log := x53.Log, Votes := x53.Votes, Next := x53.Next, Match := x53.Match } : GPeer)).length := hl7103.trans (by rw [setI_length, setI_length])
 have hx7129 : idx (setI x1.Peers x18.To ({ Up := x53.Up, Term := x18.Term, Vote := 0, Commit := x53.Commit, Role := x53.Role, Log := x53.Log, Votes := x53.Votes, Next := x53.Next, Match := x53.Match } : GPeer)) x18.To = some ({ Up := x53.Up, Term := x18.Term, Vote := 0, Commit := x53.Commit, Role := x53.Role, Log := x53.Log, Votes := x53.Votes, Next := x53.Next, Match := x53.Match } : GPeer) := idx_setI_same hx53
 refine WL.nil ?_
 refine Ex.thn_norm ?_
 exact ⟨[(0, .pointer (some ⟨b54, el55, none⟩))], (Fr.le_cons rfl Fr.le_nil), (setI x1.Peers x18.To ({ Up := x53.Up, Term := x18.Term, Vote := 0, Commit := x53.Commit, Role := x53.Role, Log := x53.Log, Votes := x53.Votes, Next := x53.Next, Match := x53.Match } : GPeer)), S6, F0, rfl, hS7119, (hE0.up (by omega)), ho7124, fo46, ho7123, fo36, ho7122, fo16, h25, h21, h7127, hl7128, h7125, h7126, (Ap.alloc (OD.hb h39)), (Ap.alloc (OD.hb h4)), ap26, (Ap.alloc (OW.hb h40)), (Ap.alloc (OW.hb h9)), ap27, ap28, (Ap.alloc (OW.hb h41)), (Ap.alloc (OW.hb h13)), ap29, ap30, ap31, hr⟩
 }
 {
 replace hr := ite_neg hr hc7092
 with_reducible refine W.skip ?_
 refine Ex.thn_norm ?_
 exact ⟨[(0, .pointer (some ⟨b54, el55, none⟩))], (Fr.le_cons rfl Fr.le_nil), x1.Peers, S6, F0, rfl, hS58, (hE0.up (by omega)), ho59, fo46, ho62, fo36, ho61, fo16, h25, h21, h63, rfl, h64, h65, (Ap.alloc (OD.hb h39)), (Ap.alloc (OD.hb h4)), ap26, (Ap.alloc (OW.hb h40)), (Ap.alloc (OW.hb h9)), ap27, ap28, (Ap.alloc (OW.hb h41)), (Ap.alloc (OW.hb h13)), ap29, ap30, ap31, hr⟩
 }
 }
 {
 intro _ n241 H242 hI
 obtain ⟨xs252, S255, F243, rfl, hS244, hE245, ho247, fo248, ho250, fo251, ho258, fo259, h246, h249, h253, hl254, h256, h257, ap260, ap261, ap262, ap263, ap264, ap265, ap266, ap267, ap268, ap269, ap270, ap271, hr⟩ := hI
 have lt272 := hS244.lt ho247
 have lt273 := hS244.lt ho250
 have lt274 := hS244.lt ho258
 have hlen241 := hE245.le
 have hlon241 := hS244.lo
 unfold f_impl_Cluster_take_J0 at hr
 with_reducible refine W.region ?_
 refine WL.move .nil rfl rfl rfl rfl ?_
 refine GL.callIn (args := [.pointer (some ⟨b54, el55, none⟩)]) .nil lo rfl rfl rfl rfl rfl rfl Try.func92 rfl rfl (Nat.le_refl _) hS244.lo ?_
 refine C.body Try.func92 rfl rfl ?_
 with_reducible refine W.region ?_
 refine WL.move .nil rfl rfl rfl rfl ?_
 refine WL.move .nil rfl rfl rfl rfl ?_
 refine WL.move .nil rfl rfl rfl rfl ?_
 refine WL.move .nil rfl rfl rfl rfl ?_
 refine WL.nilCheck .nil rfl rfl rfl rfl ?_
 refine WL.fieldAddr .nil rfl rfl rfl Try.underlying42 rfl info3 rfl rfl ?_
 obtain ⟨x275, hx275, hr⟩ := bnd_some hr
 obtain ⟨c276, ecs277, hrow278, hwin279, hb280⟩ := OD.get h253 hp56 hx275
 obtain ⟨a281, cap282, a283, cap284, a285, cap286, a287, cap288, rfl⟩ := GPeer.ofB hb280
 refine GL.store hS244 .nil (vc := [.int .i64 0]) rfl rfl rfl info3 rfl rfl rfl rfl hrow278 (OD.fnone h253 (OD.bS h253 hp56)) (win_fit2 hwin279 (Nat.le_of_ble_eq_true rfl) rfl (Nat.le_of_ble_eq_true rfl)) (by have := (OD.id_lt h253 (OD.bS h253 hp56)).1; omega) (one1 rfl) rfl (fun H289 hS290 ho291 hk292 => ?_)
 have ho293 := (hk292 (n0 + 1) (fun hj => ap260 (by rw [hj]; exact (OD.bS h253 hp56)))).trans ho247
 have ho294 := (hk292 n0 (fun hj => ap261 (by rw [hj]; exact (OD.bS h253 hp56)))).trans ho250
 have ho295 := (hk292 p0 (fun hj => ap262 (by rw [hj]; exact (OD.bS h253 hp56)))).trans ho258
 have h296 := OW.keep h256 (Nat.le_refl _) (fun i hi => hk292 i (fun hj => ap266 i hi (by rw [hj]; exact (OD.bS h253 hp56))))
 have h297 := OW.keep h257 (Nat.le_refl _) (fun i hi => hk292 i (fun hj => ap270 i hi (by rw [hj]; exact (OD.bS h253 hp56))))
 have h298 := GPeer.put_Role h253 hp56 hx275 hrow278 hwin279 (w := 0) ho291 hk292
 have hl299 : x1.Peers.length = (setI xs252 x18.To ({ Up := x275.Up, Term := x275.Term, Vote := x275.Vote, Commit := x275.Commit, Role := 0, Log := x275.Log, Votes := x275.Votes, Next := x275.Next, Match := x275.Match } : GPeer)).length := hl254.trans (by rw [setI_length])
 have hx300 : idx (setI xs252 x18.To ({ Up := x275.Up, Term := x275.Term, Vote := x275.Vote, Commit := x275.Commit, Role := 0, Log := x275.Log, Votes := x275.Votes, Next := x275.Next, Match := x275.Match } : GPeer)) x18.To = some ({ Up := x275.Up, Term := x275.Term, Vote := x275.Vote, Commit := x275.Commit, Role := 0, Log := x275.Log, Votes := x275.Votes, Next := x275.Next, Match := x275.Match } : GPeer) := idx_setI_same hx275
 refine WL.nilCheck .nil rfl rfl rfl rfl ?_
 refine WL.fieldAddr .nil rfl rfl rfl Try.underlying42 rfl info40 rfl rfl ?_
 obtain ⟨c301, ecs302, hrow303, hwin304, hb305⟩ := OD.get h298 hp56 hx300
 obtain ⟨a306, cap307, a308, cap309, a310, cap311, a312, cap313, rfl⟩ := GPeer.ofB hb305
 refine GL.store hS290 .nil (vc := [.slice none 0 0]) rfl rfl rfl info40 rfl rfl rfl rfl hrow303 (OD.fnone h298 (OD.bS h298 hp56)) (win_fit2 hwin304 (Nat.le_of_ble_eq_true rfl) rfl (Nat.le_of_ble_eq_true rfl)) (by have := (OD.id_lt h298 (OD.bS h298 hp56)).1; omega) (one1 rfl) rfl (fun H314 hS315 ho316 hk317 => ?_)
 have ho318 := (hk317 (n0 + 1) (fun hj => ap260 (by rw [hj]; exact (OD.bS h298 hp56)))).trans ho293
 have ho319 := (hk317 n0 (fun hj => ap261 (by rw [hj]; exact (OD.bS h298 hp56)))).trans ho294
 have ho320 := (hk317 p0 (fun hj => ap262 (by rw [hj]; exact (OD.bS h298 hp56)))).trans ho295
 have h321 := OW.keep h296 (Nat.le_refl _) (fun i hi => hk317 i (fun hj => ap266 i hi (by rw [hj]; exact (OD.bS h298 hp56))))
 have h322 := OW.keep h297 (Nat.le_refl _) (fun i hi => hk317 i (fun hj => ap270 i hi (by rw [hj]; exact (OD.bS h298 hp56))))
 have h323 := GPeer.nil_Votes h298 hp56 hx300 hrow303 hwin304 z00 z00 ho316 hk317
 rw [setI_setI] at h323
 have hl324 : x1.Peers.length = (setI xs252 x18.To ({ Up := x275.Up, Term := x275.Term, Vote := x275.Vote, Commit := x275.Commit, Role := 0, Log := x275.Log, Votes := [], Next := x275.Next, Match := x275.Match } : GPeer)).length := hl299.trans (by rw [setI_length, setI_length])
 have hx325 : idx (setI xs252 x18.To ({ Up := x275.Up, Term := x275.Term, Vote := x275.Vote, Commit := x275.Commit, Role := 0, Log := x275.Log, Votes := [], Next := x275.Next, Match := x275.Match } : GPeer)) x18.To = some ({ Up := x275.Up, Term := x275.Term, Vote := x275.Vote, Commit := x275.Commit, Role := 0, Log := x275.Log, Votes := [], Next := x275.Next, Match := x275.Match } : GPeer) := idx_setI_same hx275
 refine WL.nilCheck .nil rfl rfl rfl rfl ?_
 refine WL.fieldAddr .nil rfl rfl rfl Try.underlying42 rfl info31 rfl rfl ?_
 obtain ⟨c326, ecs327, hrow328, hwin329, hb330⟩ := OD.get h323 hp56 hx325
 obtain ⟨a331, cap332, a333, cap334, a335, cap336, a337, cap338, rfl⟩ := GPeer.ofB hb330
 refine GL.store hS315 .nil (vc := [.slice none 0 0]) rfl rfl rfl info31 rfl rfl rfl rfl hrow328 (OD.fnone h323 (OD.bS h323 hp56)) (win_fit2 hwin329 (Nat.le_of_ble_eq_true rfl) rfl (Nat.le_of_ble_eq_true rfl)) (by have := (OD.id_lt h323 (OD.bS h323 hp56)).1; omega) (one1 rfl) rfl (fun H339 hS340 ho341 hk342 => ?_)
 have ho343 := (hk342 (n0 + 1) (fun hj => ap260 (by rw [hj]; exact (OD.bS h323 hp56)))).trans ho318
 have ho344 := (hk342 n0 (fun hj => ap261 (by rw [hj]; exact (OD.bS h323 hp56)))).trans ho319
 have ho345 := (hk342 p0 (fun hj => ap262 (by rw [hj]; exact (OD.bS h323 hp56)))).trans ho320
 have h346 := OW.keep h321 (Nat.le_refl _) (fun i hi => hk342 i (fun hj => ap266 i hi (by rw [hj]; exact (OD.bS h323 hp56))))
 have h347 := OW.keep h322 (Nat.le_refl _) (fun i hi => hk342 i (fun hj => ap270 i hi (by rw [hj]; exact (OD.bS h323 hp56))))
 have h348 := GPeer.nil_Next h323 hp56 hx325 hrow328 hwin329 z00 z00 ho341 hk342
 rw [setI_setI] at h348
 have hl349 : x1.Peers.length = (setI xs252 x18.To ({ Up := x275.Up, Term := x275.Term, Vote := x275.Vote, Commit := x275.Commit, Role := 0, Log := x275.Log, Votes := [], Next := [], Match := x275.Match } : GPeer)).length := hl324.trans (by rw [setI_length, setI_length])
 have hx350 : idx (setI xs252 x18.To ({ Up := x275.Up, Term := x275.Term, Vote := x275.Vote, Commit := x275.Commit, Role := 0, Log := x275.Log, Votes := [], Next := [], Match := x275.Match } : GPeer)) x18.To = some ({ Up := x275.Up, Term := x275.Term, Vote := x275.Vote, Commit := x275.Commit, Role := 0, Log := x275.Log, Votes := [], Next := [], Match := x275.Match } : GPeer) := idx_setI_same hx275
 refine WL.nilCheck .nil rfl rfl rfl rfl ?_
 refine WL.fieldAddr .nil rfl rfl rfl Try.underlying42 rfl info31 rfl rfl ?_
 obtain ⟨c351, ecs352, hrow353, hwin354, hb355⟩ := OD.get h348 hp56 hx350
 obtain ⟨a356, cap357, a358, cap359, a360, cap361, a362, cap363, rfl⟩ := GPeer.ofB hb355
 refine GL.store hS340 .nil (vc := [.slice none 0 0]) rfl rfl rfl info31 rfl rfl rfl rfl hrow353 (OD.fnone h348 (OD.bS h348 hp56)) (win_fit2 hwin354 (Nat.le_of_ble_eq_true rfl) rfl (Nat.le_of_ble_eq_true rfl)) (by have := (OD.id_lt h348 (OD.bS h348 hp56)).1; omega) (one1 rfl) rfl (fun H364 hS365 ho366 hk367 => ?_)
 have ho368 := (hk367 (n0 + 1) (fun hj => ap260 (by rw [hj]; exact (OD.bS h348 hp56)))).trans ho343
 have ho369 := (hk367 n0 (fun hj => ap261 (by rw [hj]; exact (OD.bS h348 hp56)))).trans ho344
 have ho370 := (hk367 p0 (fun hj => ap262 (by rw [hj]; exact (OD.bS h348 hp56)))).trans ho345
 have h371 := OW.keep h346 (Nat.le_refl _) (fun i hi => hk367 i (fun hj => ap266 i hi (by rw [hj]; exact (OD.bS h348 hp56))))
 have h372 := OW.keep h347 (Nat.le_refl _) (fun i hi => hk367 i (fun hj => ap270 i hi (by rw [hj]; exact (OD.bS h348 hp56))))
 have h373 := GPeer.nil_Match h348 hp56 hx350 hrow353 hwin354 z00 z00 ho366 hk367
 rw [setI_setI] at h373
 have hl374 : x1.Peers.length = (setI xs252 x18.To ({ Up := x275.Up, Term := x275.Term, Vote := x275.Vote, Commit := x275.Commit, Role := 0, Log := x275.Log, Votes := [], Next := [], Match := [] } : GPeer)).length := hl349.trans (by rw [setI_length, setI_length])
 have hx375 : idx (setI xs252 x18.To ({ Up := x275.Up, Term := x275.Term, Vote := x275.Vote, Commit := x275.Commit, Role := 0, Log := x275.Log, Votes := [], Next := [], Match := [] } : GPeer)) x18.To = some ({ Up := x275.Up, Term := x275.Term, Vote := x275.Vote, Commit := x275.Commit, Role := 0, Log := x275.Log, Votes := [], Next := [], Match := [] } : GPeer) := idx_setI_same hx275
 refine WL.nil ?_
 refine ⟨.inl rfl, _, .nil, ?_⟩
 refine WL.nil ?_
 refine ⟨.inl rfl, _, .nil, ?_⟩
 refine WL.nil ?_
 refine Ex.thn_norm ?_
 with_reducible refine W.seq ?_
 with_reducible refine W.region ?_
 refine WL.move .nil rfl rfl rfl rfl ?_
 refine WL.nilCheck .nil rfl rfl rfl rfl ?_
 refine WL.fieldAddr .nil rfl rfl rfl Try.underlying42 rfl info3 rfl rfl ?_
 obtain ⟨c376, ecs377, hrow378, hwin379, hb380⟩ := OD.get h373 hp56 hx375
 obtain ⟨a381, cap382, a383, cap384, a385, cap386, a387, cap388, rfl⟩ := GPeer.ofB hb380
 refine WL.load1 .nil rfl rfl rfl Try.underlying3 rfl rfl hrow378 ((win_get (m := 1) hwin379 (show (1 : Nat) < 9 by decide)).trans rfl) ?_
 refine WL.fieldAddr .nil rfl rfl rfl Try.underlying85 rfl info3 rfl rfl ?_
 refine GL.store hS365 .nil (vc := [.int .i64 x275.Term]) (c' := [.int .i64 4, .int .i64 x22.From, .int .i64 x22.To, .int .i64 x275.Term, .int .i64 x22.A, .int .i64 x22.B, .int .i64 x22.C, .bool x22.Ok, .slice a23 x22.Log.length cap24]) rfl rfl rfl info3 rfl rfl rfl rfl ho368 fo248 (Nat.le_of_ble_eq_true rfl) (by omega) (one1 rfl) rfl (fun H389 hS390 ho391 hk392 => ?_)
 have ho393 := (hk392 _ (by omega)).trans ho369
 have ho394 := (hk392 _ (by omega)).trans ho370
 have h395 := OD.keep h373 (Nat.le_refl _) (fun i hi => hk392 i (fun hj => ap260 (hj ▸ hi)))
 have h396 := OW.keep h371 (Nat.le_refl _) (fun i hi => hk392 i (fun hj => ap263 (hj ▸ hi)))
 have h397 := OW.keep h372 (Nat.le_refl _) (fun i hi => hk392 i (fun hj => ap267 (hj ▸ hi)))
 refine WL.nil ?_
 refine Ex.thn_norm ?_
 with_reducible refine W.seq ?_
 with_reducible refine W.seq ?_
 refine W.cut (fun fr n H => ∃ (x445 : Bool) (S453 : Nat → Prop) (F : Heap), fr = [(0, .pointer (some ⟨p0, 0, none⟩)), (4, .pointer (some ⟨n0, 0, none⟩)), (5, .pointer (some ⟨(n0 + 1), 0, none⟩)), (6, .pointer (some ⟨b54, el55, none⟩)), (58, .bool x445)] ∧ St lo n H F ∧ Ext n0 F0 n F ∧ H (n0 + 1) = some (.row 1 [.int .i64 4, .int .i64 x22.From, .int .i64 x22.To, .int .i64 x275.Term, .int .i64 x22.A, .int .i64 x22.B, .int .i64 x22.C, .bool x22.Ok, .slice a23 x22.Log.length cap24]) ∧ F (n0 + 1) = none ∧ H n0 = some (.row 1 [.int .i64 x18.Kind, .int .i64 x18.From, .int .i64 x18.To, .int .i64 x18.Term, .int .i64 x18.A, .int .i64 x18.B, .int .i64 x18.C, .bool x18.Ok, .slice a19 x18.Log.length cap20]) ∧ F n0 = none ∧ H p0 = some (.row ez0 [.slice a2 x1.Peers.length cap3, .slice a7 x1.Net.length cap8, .slice a11 x1.Chosen.length cap12, .bool x1.Conflict]) ∧ F p0 = none ∧ SR F (.slice a23 x22.Log.length cap24) x22.Log ∧ SR F (.slice a19 x18.Log.length cap20) x18.Log ∧ OD lo n H F S453 [] (.slice a2 x1.Peers.length cap3) (setI xs252 x18.To ({ Up := x275.Up, Term := x275.Term, Vote := x275.Vote, Commit := x275.Commit, Role := 0, Log := x275.Log, Votes := [], Next := [], Match := [] } : GPeer)) ∧ OW lo n H F (.slice a7 x1.Net.length cap8) x1.Net ∧ OW lo n H F (.slice a11 x1.Chosen.length cap12) x1.Chosen ∧ ¬ S453 (n0 + 1) ∧ ¬ S453 n0 ∧ ¬ S453 p0 ∧ idOf (.slice a7 x1.Net.length cap8) ≠ some (n0 + 1) ∧ idOf (.slice a7 x1.Net.length cap8) ≠ some n0 ∧ idOf (.slice a7 x1.Net.length cap8) ≠ some p0 ∧ (∀ b, idOf (.slice a7 x1.Net.length cap8) = some b → ¬ S453 b) ∧ idOf (.slice a11 x1.Chosen.length cap12) ≠ some (n0 + 1) ∧ idOf (.slice a11 x1.Chosen.length cap12) ≠ some n0 ∧ idOf (.slice a11 x1.Chosen.length cap12) ≠ some p0 ∧ (∀ b, idOf (.slice a11 x1.Chosen.length cap12) = some b → ¬ S453 b) ∧ (∀ b, idOf (.slice a11 x1.Chosen.length cap12) = some b → idOf (.slice a7 x1.Net.length cap8) ≠ some b) ∧ f_impl_Cluster_take_J1 x18 xs252 x275 x1 x22 x445 = some res) ?_ ?_
 {
 refine W.regionD [0, 1, 2, 3, 4, 5, 6, 7, 8, 9, 10, 11, 12, 13, 14, 15, 16] [false, false, false, false, false, false, false, false, false, false, false, false, false, false, false, false, false] rfl rfl (by kernel_rfl) (by kernel_rfl) (by (conv => lhs; simp only [List.map_cons, List.map_nil, List.getD_cons_zero, List.getD_cons_succ]) <;> rfl) ?_
 refine WL.fieldAddr .r rfl rfl rfl Try.underlying85 rfl info3 rfl rfl ?_
 refine WL.load1 .r rfl rfl rfl Try.underlying3 rfl rfl ho393 rfl ?_
 refine WL.move .r rfl rfl rfl rfl ?_
 refine WL.nilCheck .r rfl rfl rfl rfl ?_
 refine WL.fieldAddr .r rfl rfl rfl Try.underlying42 rfl info28 rfl rfl ?_
 obtain ⟨c7050, ecs7051, hrow7052, hwin7053, hb7054⟩ := OD.get h395 hp56 hx375
 obtain ⟨a7055, cap7056, a7057, cap7058, a7059, cap7060, a7061, cap7062, rfl⟩ := GPeer.ofB hb7054
 obtain ⟨S7063, hs7064, hs7065, hs7066, h7067, h7068⟩ := GPeer.open_Log h395 hp56 hx375 hrow7052 hwin7053 (List.forall_mem_nil _)
 refine WL.load1 .r rfl rfl rfl Try.underlying28 rfl rfl hrow7052 ((win_get (m := 5) hwin7053 (show (5 : Nat) < 9 by decide)).trans rfl) ?_
 refine WL.len .r rfl rfl rfl Try.underlying28 rfl ?_
 refine WL.bin .r rfl rfl rfl rfl rfl rfl ?_
 refine WL.move .r rfl rfl rfl rfl ?_
 refine WL.guardD rfl rfl rfl (fun hg7070 => ?_) (fun hg7070 => ?_)
 {
 replace hr := ite_pos hr hg7070
 refine WL.skip .r rfl rfl ?_
 refine WL.skip .r rfl rfl ?_
 refine WL.skip .r rfl rfl ?_
 refine WL.skip .r rfl rfl ?_
 refine WL.skip .r rfl rfl ?_
 refine WL.skip .r rfl rfl ?_
 refine WL.skip .r rfl rfl ?_
 refine WL.pick .r rfl rfl rfl rfl rfl ?_
 refine WL.nil ?_
 refine Ex.thn_norm ?_
 obtain ⟨S7071, hs7072, h7073⟩ := GPeer.close0_Log h7068 hx375 h7067
 exact ⟨[(0, .pointer (some ⟨p0, 0, none⟩)), (4, .pointer (some ⟨n0, 0, none⟩)), (5, .pointer (some ⟨(n0 + 1), 0, none⟩)), (6, .pointer (some ⟨b54, el55, none⟩)), (58, .bool true)], (Fr.le_cons rfl (Fr.le_cons rfl (Fr.le_cons rfl (Fr.le_cons rfl (Fr.le_cons rfl Fr.le_nil))))), true, S7071, F243, rfl, hS390, hE245, ho391, fo248, ho393, fo251, ho394, fo259, h246, h249, h7073, h396, h397, (Ap.or0 hs7072 (Ap.sub0 hs7064 ap260) (Ap.sub0 hs7065 ap260)), (Ap.or0 hs7072 (Ap.sub0 hs7064 ap261) (Ap.sub0 hs7065 ap261)), (Ap.or0 hs7072 (Ap.sub0 hs7064 ap262) (Ap.sub0 hs7065 ap262)), ap263, ap264, ap265, (Ap.sym (Ap.or hs7072 (Ap.sub hs7064 (Ap.sym ap266)) (Ap.sub hs7065 (Ap.sym ap266)))), ap267, ap268, ap269, (Ap.sym (Ap.or hs7072 (Ap.sub hs7064 (Ap.sym ap270)) (Ap.sub hs7065 (Ap.sym ap270)))), ap271, hr⟩
 }
 {
 replace hr := ite_neg hr hg7070
 refine WL.move .r rfl rfl rfl rfl ?_
 refine WL.fieldAddr .r rfl rfl rfl Try.underlying85 rfl info3 rfl rfl ?_
 refine WL.load1 .r rfl rfl rfl Try.underlying3 rfl rfl ho393 rfl ?_
 obtain ⟨x7074, hx7074, hr⟩ := bnd_some hr
 refine GL.callP g.good .r rfl rfl rfl rfl rfl rfl Try.func94 rfl rfl (Nat.le_refl _) (f_impl_Peer_term_elem0_k  g hS390 hrow7052 hwin7053 h7067 hx7074) (fun v n7075 H7076 hn7077 hk7078 hp7079 => ?_)
 obtain ⟨hS7080, rfl⟩ := hp7079
 have ho7081 := (hk7078 _ (by have := lt272; omega)).trans ho391
 have ho7082 := (hk7078 _ (by have := lt273; omega)).trans ho393
 have ho7083 := (hk7078 _ (by have := lt274; omega)).trans ho394
 have h7084 := OD.keep (n' := n7075) h7068 (by omega) (fun i hi => hk7078 i (OD.id_lt h7068 hi).2)
 have h7085 := OW.keep (n' := n7075) h396 (by omega) (fun i hi => hk7078 i (OW.id_lt h396 hi).2)
 have h7086 := OW.keep (n' := n7075) h397 (by omega) (fun i hi => hk7078 i (OW.id_lt h397 hi).2)
 have h7087 := OW.keep (n' := n7075) h7067 (by omega) (fun i hi => hk7078 i (OW.id_lt h7067 hi).2)
 have hS7088 : St lo n7075 H7076 F243 := ⟨by have := hS390.lo; omega, hS7080.hb, hS7080.fh⟩
 have hlon7075 := hS7088.lo
 refine WL.fieldAddr .r rfl rfl rfl Try.underlying85 rfl info3 rfl rfl ?_
 refine WL.load1 .r rfl rfl rfl Try.underlying3 rfl rfl ho7082 rfl ?_
 refine WL.bin .r rfl rfl rfl rfl rfl rfl ?_
 refine WL.pick .r rfl rfl rfl rfl rfl ?_
 refine WL.nil ?_
 refine Ex.thn_norm ?_
 obtain ⟨S7089, hs7090, h7091⟩ := GPeer.close0_Log h7084 hx375 h7087
 exact ⟨[(0, .pointer (some ⟨p0, 0, none⟩)), (4, .pointer (some ⟨n0, 0, none⟩)), (5, .pointer (some ⟨(n0 + 1), 0, none⟩)), (6, .pointer (some ⟨b54, el55, none⟩)), (58, .bool (!decide (x7074 = x18.B)))], (Fr.le_cons rfl (Fr.le_cons rfl (Fr.le_cons rfl (Fr.le_cons rfl (Fr.le_cons rfl Fr.le_nil))))), (!decide (x7074 = x18.B)), S7089, F243, rfl, hS7088, (hE245.up (by omega)), ho7081, fo248, ho7082, fo251, ho7083, fo259, h246, h249, h7091, h7085, h7086, (Ap.or0 hs7090 (Ap.sub0 hs7064 ap260) (Ap.sub0 hs7065 ap260)), (Ap.or0 hs7090 (Ap.sub0 hs7064 ap261) (Ap.sub0 hs7065 ap261)), (Ap.or0 hs7090 (Ap.sub0 hs7064 ap262) (Ap.sub0 hs7065 ap262)), ap263, ap264, ap265, (Ap.sym (Ap.or hs7090 (Ap.sub hs7064 (Ap.sym ap266)) (Ap.sub hs7065 (Ap.sym ap266)))), ap267, ap268, ap269, (Ap.sym (Ap.or hs7090 (Ap.sub hs7064 (Ap.sym ap270)) (Ap.sub hs7065 (Ap.sym ap270)))), ap271, hr⟩
 }
 }
 {
 intro _ n440 H441 hI
 obtain ⟨x445, S453, F442, rfl, hS443, hE444, ho447, fo448, ho450, fo451, ho456, fo457, h446, h449, h452, h454, h455, ap458, ap459, ap460, ap461, ap462, ap463, ap464, ap465, ap466, ap467, ap468, ap469, hr⟩ := hI
 have lt470 := hS443.lt ho447
 have lt471 := hS443.lt ho450
 have lt472 := hS443.lt ho456
 have hlen440 := hE444.le
 have hlon440 := hS443.lo
 unfold f_impl_Cluster_take_J1 at hr
 refine W.cond rfl (fun hc560 => ?_) (fun hc560 => ?_)
 {
 replace hr := iteB_pos hr hc560
 with_reducible refine W.seq ?_
 refine W.regionD [0, 1, 2, 3, 4, 5, 6, 7, 8, 9, 10] [false, false, false, false, false, false, false, false, false, false, true] rfl rfl (by kernel_rfl) (by kernel_rfl) (by (conv => lhs; simp only [List.map_cons, List.map_nil, List.getD_cons_zero, List.getD_cons_succ]) <;> rfl) ?_
 refine WL.fieldAddr .r rfl rfl rfl Try.underlying85 rfl info3 rfl rfl ?_
 refine WL.load1 .r rfl rfl rfl Try.underlying3 rfl rfl ho450 rfl ?_
 obtain ⟨hc561, hr⟩ := chk_some hr
 refine WL.subI .r rfl rfl rfl rfl rfl hc561.1 hc561.2 ?_
 refine WL.move .r rfl rfl rfl rfl ?_
 refine WL.nilCheck .r rfl rfl rfl rfl ?_
 refine WL.fieldAddr .r rfl rfl rfl Try.underlying42 rfl info28 rfl rfl ?_
 obtain ⟨c562, ecs563, hrow564, hwin565, hb566⟩ := OD.get h452 hp56 hx375
 obtain ⟨a567, cap568, a569, cap570, a571, cap572, a573, cap574, rfl⟩ := GPeer.ofB hb566
 obtain ⟨S575, hs576, hs577, hs578, h579, h580⟩ := GPeer.open_Log h452 hp56 hx375 hrow564 hwin565 (List.forall_mem_nil _)
 refine WL.load1 .r rfl rfl rfl Try.underlying28 rfl rfl hrow564 ((win_get (m := 5) hwin565 (show (5 : Nat) < 9 by decide)).trans rfl) ?_
 refine WL.len .r rfl rfl rfl Try.underlying28 rfl ?_
 refine WL.min2 .r rfl rfl rfl rfl rfl ?_
 refine WL.fieldAddr .r rfl rfl rfl Try.underlying85 rfl info3 rfl rfl ?_
 refine GL.store hS443 .w (vc := [.int .i64 (if (x275.Log.length : Int) < (x18.A - 1) then (x275.Log.length : Int) else (x18.A - 1))]) (c' := [.int .i64 4, .int .i64 x22.From, .int .i64 x22.To, .int .i64 x275.Term, .int .i64 (if (x275.Log.length : Int) < (x18.A - 1) then (x275.Log.length : Int) else (x18.A - 1)), .int .i64 x22.B, .int .i64 x22.C, .bool x22.Ok, .slice a23 x22.Log.length cap24]) rfl rfl rfl info3 rfl rfl rfl rfl ho447 fo448 (Nat.le_of_ble_eq_true rfl) (by omega) (one1 rfl) rfl (fun H582 hS583 ho584 hk585 => ?_)
 have ho586 := (hk585 _ (by omega)).trans ho450
 have ho587 := (hk585 _ (by omega)).trans ho456
 have h588 := OD.keep h580 (Nat.le_refl _) (fun i hi => hk585 i (fun hj => (Ap.sub0 hs576 ap458) (hj ▸ hi)))
 have h589 := OW.keep h454 (Nat.le_refl _) (fun i hi => hk585 i (fun hj => ap461 (hj ▸ hi)))
 have h590 := OW.keep h455 (Nat.le_refl _) (fun i hi => hk585 i (fun hj => ap465 (hj ▸ hi)))
 have h591 := OW.keep h579 (Nat.le_refl _) (fun i hi => hk585 i (fun hj => (Ap.sub0 hs577 ap458) (hj ▸ hi)))
 refine WL.nil ?_
 refine Ex.thn_norm ?_
 with_reducible refine W.seq ?_
 with_reducible refine W.region ?_
 refine WL.move .nil rfl rfl rfl rfl ?_
 refine WL.loadN .nil (l' := [.int .i64 4, .int .i64 x22.From, .int .i64 x22.To, .int .i64 x275.Term, .int .i64 (if (x275.Log.length : Int) < (x18.A - 1) then (x275.Log.length : Int) else (x18.A - 1)), .int .i64 x22.B, .int .i64 x22.C, .bool x22.Ok, .slice a23 x22.Log.length cap24]) rfl rfl rfl Try.underlying85 rfl info85 rfl ho584 rfl rfl ?_
 obtain ⟨S592, hs593, h594⟩ := GPeer.close0_Log h588 hx375 h591
 obtain ⟨x595, hx595, hr⟩ := bnd_some hr
 refine GL.callIO g .nil (fun i => (F442 i).isSome = true ∨ i = p0 ∨ S592 i ∨ idOf (.slice a7 x1.Net.length cap8) = some i ∨ idOf (.slice a11 x1.Chosen.length cap12) = some i) rfl rfl rfl rfl rfl rfl Try.func55 rfl rfl (Nat.le_refl _) hS583.lo (f_impl_Cluster_send_k (x1 := ({ Peers := (setI xs252 x18.To ({ Up := x275.Up, Term := x275.Term, Vote := x275.Vote, Commit := x275.Commit, Role := 0, Log := x275.Log, Votes := [], Next := [], Match := [] } : GPeer)), Net := x1.Net, Chosen := x1.Chosen, Conflict := x1.Conflict } : GCluster)) (x18 := ({ Kind := 4, From := x22.From, To := x22.To, Term := x275.Term, A := (if (x275.Log.length : Int) < (x18.A - 1) then (x275.Log.length : Int) else (x18.A - 1)), B := x22.B, C := x22.C, Ok := x22.Ok, Log := x22.Log } : GMsg)) g (St.vis hS583 (fun i hi => .inl hi)) (by rw [← hl374]; exact vis_get ho587 (.inr (.inl rfl))) fo457 lo17 (OD.head hl374 (OD.vis h594 (fun i hi => (.inr (.inr (.inl hi)))))) (OW.vis h589 (fun i hi => (.inr (.inr (.inr (.inl hi)))))) (OW.vis h590 (fun i hi => (.inr (.inr (.inr (.inr (hi))))))) h446 (Ap.or0 hs593 (Ap.sub0 hs576 ap460) (Ap.sub0 hs577 ap460)) ap463 (Ap.sym (Ap.or hs593 (Ap.sub hs576 (Ap.sym ap464)) (Ap.sub hs577 (Ap.sym ap464)))) ap467 (Ap.sym (Ap.or hs593 (Ap.sub hs576 (Ap.sym ap468)) (Ap.sub hs577 (Ap.sym ap468)))) ap469 hx595) (fun v n596 H597 H598 hn599 hp600 hle601 hnew602 hk603 hd604 => ?_)
 obtain ⟨F615, S606, a608, cap609, a611, cap612, hX616, hS614, ho617, rfl, h605, hl607, h610, h613, ap618, ap619, ap620, ap621, ap622, ap623⟩ := hp600
 have hS624 : St lo n596 H597 _ := ⟨hS614.lo, fun i hi => (hnew602 i (by omega)).trans (hS614.hb i hi), hS614.fh.trans hle601⟩
 have ho625 := (hk603 _ (by have := lt470; omega) (fun hs => by
      rcases hs with h | h | h | h | h
      · rw [fo448] at h; cases h
      · omega
      · exact (Ap.or0 hs593 (Ap.sub0 hs576 ap458) (Ap.sub0 hs577 ap458)) h
      · exact ap461 h
      · exact ap465 h)).trans ho584
 have ho626 := (hk603 _ (by have := lt471; omega) (fun hs => by
      rcases hs with h | h | h | h | h
      · rw [fo451] at h; cases h
      · omega
      · exact (Ap.or0 hs593 (Ap.sub0 hs576 ap459) (Ap.sub0 hs577 ap459)) h
      · exact ap462 h
      · exact ap466 h)).trans ho586
 have fo627 := (hX616.eq _ (by have := lt470; omega)).trans fo448
 have fo628 := (hX616.eq _ (by have := lt471; omega)).trans fo451
 have fo629 := (hX616.eq _ (by have := lt472; omega)).trans fo457
 have hE630 := (hE444.up (n' := n440) (by omega)).trans hX616
 have ho631 := hle601 _ _ ho617
 have h632 := OD.le h605 hle601
 have hl633 : x1.Peers.length = x595.Peers.length := hl374.trans hl607
 rw [← hl374] at h632
 have h635 := OW.le h610 hle601
 have h637 := OW.le h613 hle601
 rw [← hl374] at ho631
 have ap638 : ¬ S606 (n0 + 1) := fun hj => (OD.after h605 hd604 hj).elim (fun h => by have := lt470; omega) (fun hs => by
      rcases hs with h | h | h | h | h
      · rw [fo448] at h; cases h
      · omega
      · exact (Ap.or0 hs593 (Ap.sub0 hs576 ap458) (Ap.sub0 hs577 ap458)) h
      · exact ap461 h
      · exact ap465 h)
 have ap639 : ¬ S606 n0 := fun hj => (OD.after h605 hd604 hj).elim (fun h => by have := lt471; omega) (fun hs => by
      rcases hs with h | h | h | h | h
      · rw [fo451] at h; cases h
      · omega
      · exact (Ap.or0 hs593 (Ap.sub0 hs576 ap459) (Ap.sub0 hs577 ap459)) h
      · exact ap462 h
      · exact ap466 h)
 have ap640 : idOf (.slice a608 x595.Net.length cap609) ≠ some (n0 + 1) := fun hj => (OW.after h610 hd604 hj).elim (fun h => by have := lt470; omega) (fun hs => by
      rcases hs with h | h | h | h | h
      · rw [fo448] at h; cases h
      · omega
      · exact (Ap.or0 hs593 (Ap.sub0 hs576 ap458) (Ap.sub0 hs577 ap458)) h
      · exact ap461 h
      · exact ap465 h)
 have ap641 : idOf (.slice a608 x595.Net.length cap609) ≠ some n0 := fun hj => (OW.after h610 hd604 hj).elim (fun h => by have := lt471; omega) (fun hs => by
      rcases hs with h | h | h | h | h
      · rw [fo451] at h; cases h
      · omega
      · exact (Ap.or0 hs593 (Ap.sub0 hs576 ap459) (Ap.sub0 hs577 ap459)) h
      · exact ap462 h
      · exact ap466 h)
 have ap642 : idOf (.slice a611 x595.Chosen.length cap612) ≠ some (n0 + 1) := fun hj => (OW.after h613 hd604 hj).elim (fun h => by have := lt470; omega) (fun hs => by
      rcases hs with h | h | h | h | h
      · rw [fo448] at h; cases h
      · omega
      · exact (Ap.or0 hs593 (Ap.sub0 hs576 ap458) (Ap.sub0 hs577 ap458)) h
      · exact ap461 h
      · exact ap465 h)
 have ap643 : idOf (.slice a611 x595.Chosen.length cap612) ≠ some n0 := fun hj => (OW.after h613 hd604 hj).elim (fun h => by have := lt471; omega) (fun hs => by
      rcases hs with h | h | h | h | h
      · rw [fo451] at h; cases h
      · omega
      · exact (Ap.or0 hs593 (Ap.sub0 hs576 ap459) (Ap.sub0 hs577 ap459)) h
      · exact ap462 h
      · exact ap466 h)
 have hlon596 := hS624.lo
 have lt644 := hS624.lt ho625
 have lt645 := hS624.lt ho626
 have lt646 := hS624.lt ho631
 refine WL.nil ?_
 refine Ex.thn_norm ?_
 with_reducible refine W.ret ?_
 with_reducible refine Ex.thn_ret ?_
 obtain rfl := Option.some.inj hr
 exact ⟨.inr rfl, _, .nil, ⟨F615, S606, a608, cap609, a611, cap612, (hE630.up (by omega)), hS624, ho631, rfl, h632, hl633, h635, h637, ap618, ap619, ap620, ap621, ap622, ap623⟩⟩
 }
 {
 replace hr := iteB_neg hr hc560
 with_reducible refine W.skip ?_
 refine Ex.thn_norm ?_
 with_reducible refine W.seq ?_
 with_reducible refine W.region ?_
 refine WL.fieldAddr .nil rfl rfl rfl Try.underlying85 rfl info3 rfl rfl ?_
 refine WL.load1 .nil rfl rfl rfl Try.underlying3 rfl rfl ho450 rfl ?_
 refine WL.assign .nil rfl rfl rfl rfl ?_
 refine WL.nil ?_
 refine Ex.thn_norm ?_
 with_reducible refine W.seq ?_
 with_reducible refine W.seq ?_
 with_reducible refine W.region ?_
 refine WL.fieldAddr .nil rfl rfl rfl Try.underlying85 rfl info28 rfl rfl ?_
 refine WL.load1 .nil rfl rfl rfl Try.underlying28 rfl rfl ho450 rfl ?_
 refine WL.len .nil rfl rfl rfl Try.underlying28 rfl ?_
 refine WL.move .nil rfl rfl rfl rfl ?_
 refine WL.nil ?_
 refine Ex.thn_norm ?_
 with_reducible refine W.block ?_
 refine W.loopF (fun k2 fr n H => ∃ (x5853 : Int) (x5855 : Int) (xs5861 : (List GPeer)) (S5864 : Nat → Prop) (F : Heap), fr = [(0, .pointer (some ⟨p0, 0, none⟩)), (4, .pointer (some ⟨n0, 0, none⟩)), (5, .pointer (some ⟨(n0 + 1), 0, none⟩)), (6, .pointer (some ⟨b54, el55, none⟩)), (7, .int .i64 x5853), (75, .slice a19 x18.Log.length cap20), (76, .int .i64 (x18.Log.length : Int)), (77, .int .i64 x5855)] ∧ St lo n H F ∧ Ext n0 F0 n F ∧ H (n0 + 1) = some (.row 1 [.int .i64 4, .int .i64 x22.From, .int .i64 x22.To, .int .i64 x275.Term, .int .i64 x22.A, .int .i64 x22.B, .int .i64 x22.C, .bool x22.Ok, .slice a23 x22.Log.length cap24]) ∧ F (n0 + 1) = none ∧ H n0 = some (.row 1 [.int .i64 x18.Kind, .int .i64 x18.From, .int .i64 x18.To, .int .i64 x18.Term, .int .i64 x18.A, .int .i64 x18.B, .int .i64 x18.C, .bool x18.Ok, .slice a19 x18.Log.length cap20]) ∧ F n0 = none ∧ H p0 = some (.row ez0 [.slice a2 x1.Peers.length cap3, .slice a7 x1.Net.length cap8, .slice a11 x1.Chosen.length cap12, .bool x1.Conflict]) ∧ F p0 = none ∧ SR F (.slice a19 x18.Log.length cap20) x18.Log ∧ SR F (.slice a23 x22.Log.length cap24) x22.Log ∧ OD lo n H F S5864 [] (.slice a2 x1.Peers.length cap3) xs5861 ∧ x1.Peers.length = xs5861.length ∧ OW lo n H F (.slice a7 x1.Net.length cap8) x1.Net ∧ OW lo n H F (.slice a11 x1.Chosen.length cap12) x1.Chosen ∧ ¬ S5864 (n0 + 1) ∧ ¬ S5864 n0 ∧ ¬ S5864 p0 ∧ idOf (.slice a7 x1.Net.length cap8) ≠ some (n0 + 1) ∧ idOf (.slice a7 x1.Net.length cap8) ≠ some n0 ∧ idOf (.slice a7 x1.Net.length cap8) ≠ some p0 ∧ (∀ b, idOf (.slice a7 x1.Net.length cap8) = some b → ¬ S5864 b) ∧ idOf (.slice a11 x1.Chosen.length cap12) ≠ some (n0 + 1) ∧ idOf (.slice a11 x1.Chosen.length cap12) ≠ some n0 ∧ idOf (.slice a11 x1.Chosen.length cap12) ≠ some p0 ∧ (∀ b, idOf (.slice a11 x1.Chosen.length cap12) = some b → ¬ S5864 b) ∧ (∀ b, idOf (.slice a11 x1.Chosen.length cap12) = some b → idOf (.slice a7 x1.Net.length cap8) ≠ some b) ∧ f_impl_Cluster_take_L2 x18 x1 x22 x275 k2 x5853 x5855 xs5861 = some res) BIG (fr0 := [(0, .pointer (some ⟨p0, 0, none⟩)), (4, .pointer (some ⟨n0, 0, none⟩)), (5, .pointer (some ⟨(n0 + 1), 0, none⟩)), (6, .pointer (some ⟨b54, el55, none⟩)), (7, .int .i64 x18.A), (75, .slice a19 x18.Log.length cap20), (76, .int .i64 (x18.Log.length : Int)), (77, .int .i64 0)]) (Fr.le_cons rfl (Fr.le_cons rfl (Fr.le_cons rfl (Fr.le_cons rfl (Fr.le_cons rfl (Fr.le_cons rfl (Fr.le_cons rfl (Fr.le_cons rfl Fr.le_nil)))))))) ?_ ?_ ?_
 {
 exact ⟨x18.A, 0, (setI xs252 x18.To ({ Up := x275.Up, Term := x275.Term, Vote := x275.Vote, Commit := x275.Commit, Role := 0, Log := x275.Log, Votes := [], Next := [], Match := [] } : GPeer)), S453, F442, rfl, hS443, hE444, ho447, fo448, ho450, fo451, ho456, fo457, h449, h446, h452, hl374, h454, h455, ap458, ap459, ap460, ap461, ap462, ap463, ap464, ap465, ap466, ap467, ap468, ap469, hr⟩
 }
 {
 intro fr n H hI
 obtain ⟨x5853, x5855, xs5861, S5864, F5850, hfr, hS5851, hE5852, ho5857, fo5858, ho5859, fo5860, ho5867, fo5868, h5854, h5856, h5862, hl5863, h5865, h5866, ap5869, ap5870, ap5871, ap5872, ap5873, ap5874, ap5875, ap5876, ap5877, ap5878, ap5879, ap5880, hr⟩ := hI
 rw [f_impl_Cluster_take_L2] at hr
 cases hr
 }
 {
 intro k2 _ n5848 H5849 hI
 obtain ⟨x5853, x5855, xs5861, S5864, F5850, rfl, hS5851, hE5852, ho5857, fo5858, ho5859, fo5860, ho5867, fo5868, h5854, h5856, h5862, hl5863, h5865, h5866, ap5869, ap5870, ap5871, ap5872, ap5873, ap5874, ap5875, ap5876, ap5877, ap5878, ap5879, ap5880, hr⟩ := hI
 have lt5881 := hS5851.lt ho5857
 have lt5882 := hS5851.lt ho5859
 have lt5883 := hS5851.lt ho5867
 have hlen5848 := hE5852.le
 have hlon5848 := hS5851.lo
 rw [f_impl_Cluster_take_L2] at hr
 with_reducible refine W.seq ?_
 with_reducible refine W.region ?_
 refine WL.bin .nil rfl rfl rfl rfl rfl rfl ?_
 refine WL.nil ?_
 refine Ex.thn_norm ?_
 with_reducible refine W.seq ?_
 refine W.condD rfl (fun hc5885 => ?_) (fun hc5885 => ?_)
 {
 replace hr := ite_pos hr hc5885
 with_reducible refine W.skip ?_
 refine Ex.thn_norm ?_
 with_reducible refine W.seq ?_
 refine W.cut (fun fr n H => ∃ (x6378 : Int) (xs6385 : (List GPeer)) (S6388 : Nat → Prop) (F : Heap), fr = [(0, .pointer (some ⟨p0, 0, none⟩)), (4, .pointer (some ⟨n0, 0, none⟩)), (5, .pointer (some ⟨(n0 + 1), 0, none⟩)), (6, .pointer (some ⟨b54, el55, none⟩)), (7, .int .i64 x6378), (75, .slice a19 x18.Log.length cap20), (76, .int .i64 (x18.Log.length : Int)), (77, .int .i64 x5855)] ∧ St lo n H F ∧ Ext n0 F0 n F ∧ H (n0 + 1) = some (.row 1 [.int .i64 4, .int .i64 x22.From, .int .i64 x22.To, .int .i64 x275.Term, .int .i64 x22.A, .int .i64 x22.B, .int .i64 x22.C, .bool x22.Ok, .slice a23 x22.Log.length cap24]) ∧ F (n0 + 1) = none ∧ H n0 = some (.row 1 [.int .i64 x18.Kind, .int .i64 x18.From, .int .i64 x18.To, .int .i64 x18.Term, .int .i64 x18.A, .int .i64 x18.B, .int .i64 x18.C, .bool x18.Ok, .slice a19 x18.Log.length cap20]) ∧ F n0 = none ∧ H p0 = some (.row ez0 [.slice a2 x1.Peers.length cap3, .slice a7 x1.Net.length cap8, .slice a11 x1.Chosen.length cap12, .bool x1.Conflict]) ∧ F p0 = none ∧ SR F (.slice a19 x18.Log.length cap20) x18.Log ∧ SR F (.slice a23 x22.Log.length cap24) x22.Log ∧ OD lo n H F S6388 [] (.slice a2 x1.Peers.length cap3) xs6385 ∧ x1.Peers.length = xs6385.length ∧ OW lo n H F (.slice a7 x1.Net.length cap8) x1.Net ∧ OW lo n H F (.slice a11 x1.Chosen.length cap12) x1.Chosen ∧ ¬ S6388 (n0 + 1) ∧ ¬ S6388 n0 ∧ ¬ S6388 p0 ∧ idOf (.slice a7 x1.Net.length cap8) ≠ some (n0 + 1) ∧ idOf (.slice a7 x1.Net.length cap8) ≠ some n0 ∧ idOf (.slice a7 x1.Net.length cap8) ≠ some p0 ∧ (∀ b, idOf (.slice a7 x1.Net.length cap8) = some b → ¬ S6388 b) ∧ idOf (.slice a11 x1.Chosen.length cap12) ≠ some (n0 + 1) ∧ idOf (.slice a11 x1.Chosen.length cap12) ≠ some n0 ∧ idOf (.slice a11 x1.Chosen.length cap12) ≠ some p0 ∧ (∀ b, idOf (.slice a11 x1.Chosen.length cap12) = some b → ¬ S6388 b) ∧ (∀ b, idOf (.slice a11 x1.Chosen.length cap12) = some b → idOf (.slice a7 x1.Net.length cap8) ≠ some b) ∧ f_impl_Cluster_take_J3 x5855 (f_impl_Cluster_take_L2 x18 x1 x22 x275 k2) x6378 xs6385 = some res) ?_ ?_
 {
 with_reducible refine W.block ?_
 with_reducible refine W.seq ?_
 with_reducible refine W.region ?_
 obtain ⟨x6409, hx6409, hr⟩ := bnd_some hr
 refine GL.index .nil rfl rfl rfl Try.underlying28 info35 rfl rfl h5854 hS5851.fh rfl hx6409 (fun b6410 kp6411 c6412 ecs6413 hrow6414 hwin6415 hR6416 => ?_)
 obtain ⟨a6417, cap6418, rfl, h6419⟩ := GRec.ofR hR6416
 refine WL.loadN .nil (l' := [.int .i64 x6409.Term, .int .i64 x6409.Index, .slice a6417 x6409.Data.length cap6418]) rfl rfl rfl Try.underlying35 rfl info35 rfl hrow6414 hwin6415 rfl ?_
 refine GL.alloc hS5851 .nil (zc := [.int .i64 0, .int .i64 0, .slice none 0 0]) rfl rfl rfl info35 rfl rfl rfl (fun H6420 hS6421 ho6422 hk6423 => ?_)
 have fo6424 := hS5851.fnone (Nat.le_refl _)
 have ho6426 := (hk6423 _ (by have := lt5881; omega)).trans ho5857
 have ho6427 := (hk6423 _ (by have := lt5882; omega)).trans ho5859
 have ho6428 := (hk6423 _ (by have := lt5883; omega)).trans ho5867
 have h6429 := OD.keep (n' := (n5848 + 1)) h5862 (by omega) (fun i hi => hk6423 i (OD.id_lt h5862 hi).2)
 have h6430 := OW.keep (n' := (n5848 + 1)) h5865 (by omega) (fun i hi => hk6423 i (OW.id_lt h5865 hi).2)
 have h6431 := OW.keep (n' := (n5848 + 1)) h5866 (by omega) (fun i hi => hk6423 i (OW.id_lt h5866 hi).2)
 have hlon58481 := hS6421.lo
 have lt6425 : n5848 < (n5848 + 1) := by omega
 refine GL.store hS6421 .nil (vc := [.int .i64 x6409.Term, .int .i64 x6409.Index, .slice a6417 x6409.Data.length cap6418]) (c' := [.int .i64 x6409.Term, .int .i64 x6409.Index, .slice a6417 x6409.Data.length cap6418]) rfl rfl rfl info35 rfl rfl rfl rfl ho6422 fo6424 (Nat.le_of_ble_eq_true rfl) (by omega) (by repeat' (first | exact List.forall_mem_nil _ | refine List.forall_mem_cons.2 ⟨?_, ?_⟩ | rfl)) rfl (fun H6432 hS6433 ho6434 hk6435 => ?_)
 have ho6436 := (hk6435 _ (by omega)).trans ho6426
 have ho6437 := (hk6435 _ (by omega)).trans ho6427
 have ho6438 := (hk6435 _ (by omega)).trans ho6428
 have h6439 := OD.keep h6429 (Nat.le_refl _) (fun i hi => hk6435 i (fun hj => (Ap.alloc (OD.hb h5862)) (hj ▸ hi)))
 have h6440 := OW.keep h6430 (Nat.le_refl _) (fun i hi => hk6435 i (fun hj => (Ap.alloc (OW.hb h5865)) (hj ▸ hi)))
 have h6441 := OW.keep h6431 (Nat.le_refl _) (fun i hi => hk6435 i (fun hj => (Ap.alloc (OW.hb h5866)) (hj ▸ hi)))
 refine WL.nil ?_
 refine Ex.thn_norm ?_
 with_reducible refine W.seq ?_
 with_reducible refine W.region ?_
 refine WL.fieldAddr .nil rfl rfl rfl Try.underlying35 rfl info3 rfl rfl ?_
 refine WL.load1 .nil rfl rfl rfl Try.underlying3 rfl rfl ho6434 rfl ?_
 refine WL.assign .nil rfl rfl rfl rfl ?_
 refine WL.nil ?_
 refine Ex.thn_norm ?_
 with_reducible refine W.seq ?_
 with_reducible refine W.seq ?_
 refine W.cut (fun fr n H => ∃ (x6492 : Bool) (S6502 : Nat → Prop) (F : Heap), fr = [(0, .pointer (some ⟨p0, 0, none⟩)), (4, .pointer (some ⟨n0, 0, none⟩)), (5, .pointer (some ⟨(n0 + 1), 0, none⟩)), (6, .pointer (some ⟨b54, el55, none⟩)), (7, .int .i64 x6409.Index), (9, .pointer (some ⟨n5848, 0, none⟩)), (75, .slice a19 x18.Log.length cap20), (76, .int .i64 (x18.Log.length : Int)), (77, .int .i64 x5855), (97, .bool x6492)] ∧ St lo n H F ∧ Ext n0 F0 n F ∧ H (n0 + 1) = some (.row 1 [.int .i64 4, .int .i64 x22.From, .int .i64 x22.To, .int .i64 x275.Term, .int .i64 x22.A, .int .i64 x22.B, .int .i64 x22.C, .bool x22.Ok, .slice a23 x22.Log.length cap24]) ∧ F (n0 + 1) = none ∧ H n0 = some (.row 1 [.int .i64 x18.Kind, .int .i64 x18.From, .int .i64 x18.To, .int .i64 x18.Term, .int .i64 x18.A, .int .i64 x18.B, .int .i64 x18.C, .bool x18.Ok, .slice a19 x18.Log.length cap20]) ∧ F n0 = none ∧ H n5848 = some (.row 1 [.int .i64 x6409.Term, .int .i64 x6409.Index, .slice a6417 x6409.Data.length cap6418]) ∧ F n5848 = none ∧ H p0 = some (.row ez0 [.slice a2 x1.Peers.length cap3, .slice a7 x1.Net.length cap8, .slice a11 x1.Chosen.length cap12, .bool x1.Conflict]) ∧ F p0 = none ∧ SR F (.slice a19 x18.Log.length cap20) x18.Log ∧ SR F (.slice a23 x22.Log.length cap24) x22.Log ∧ SR F (.slice a6417 x6409.Data.length cap6418) x6409.Data ∧ OD lo n H F S6502 [] (.slice a2 x1.Peers.length cap3) xs5861 ∧ OW lo n H F (.slice a7 x1.Net.length cap8) x1.Net ∧ OW lo n H F (.slice a11 x1.Chosen.length cap12) x1.Chosen ∧ ¬ S6502 (n0 + 1) ∧ ¬ S6502 n0 ∧ ¬ S6502 n5848 ∧ ¬ S6502 p0 ∧ idOf (.slice a7 x1.Net.length cap8) ≠ some (n0 + 1) ∧ idOf (.slice a7 x1.Net.length cap8) ≠ some n0 ∧ idOf (.slice a7 x1.Net.length cap8) ≠ some n5848 ∧ idOf (.slice a7 x1.Net.length cap8) ≠ some p0 ∧ (∀ b, idOf (.slice a7 x1.Net.length cap8) = some b → ¬ S6502 b) ∧ idOf (.slice a11 x1.Chosen.length cap12) ≠ some (n0 + 1) ∧ idOf (.slice a11 x1.Chosen.length cap12) ≠ some n0 ∧ idOf (.slice a11 x1.Chosen.length cap12) ≠ some n5848 ∧ idOf (.slice a11 x1.Chosen.length cap12) ≠ some p0 ∧ (∀ b, idOf (.slice a11 x1.Chosen.length cap12) = some b → ¬ S6502 b) ∧ (∀ b, idOf (.slice a11 x1.Chosen.length cap12) = some b → idOf (.slice a7 x1.Net.length cap8) ≠ some b) ∧ f_impl_Cluster_take_J4 xs5861 x18 x6409 x5855 (f_impl_Cluster_take_L2 x18 x1 x22 x275 k2) x6492 = some res) ?_ ?_
 {
 refine W.regionD [0, 1, 2, 3, 4, 5, 6, 7, 8, 9, 10, 11, 12, 13, 14] [false, false, false, false, false, false, false, false, false, false, false, false, false, false, false] rfl rfl (by kernel_rfl) (by kernel_rfl) (by (conv => lhs; simp only [List.map_cons, List.map_nil, List.getD_cons_zero, List.getD_cons_succ]) <;> rfl) ?_
 refine WL.move .r rfl rfl rfl rfl ?_
 refine WL.move .r rfl rfl rfl rfl ?_
 refine WL.nilCheck .r rfl rfl rfl rfl ?_
 refine WL.fieldAddr .r rfl rfl rfl Try.underlying42 rfl info28 rfl rfl ?_
 obtain ⟨x6858, hx6858, hr⟩ := bnd_some hr
 obtain ⟨c6859, ecs6860, hrow6861, hwin6862, hb6863⟩ := OD.get h6439 hp56 hx6858
 obtain ⟨a6864, cap6865, a6866, cap6867, a6868, cap6869, a6870, cap6871, rfl⟩ := GPeer.ofB hb6863
 obtain ⟨S6872, hs6873, hs6874, hs6875, h6876, h6877⟩ := GPeer.open_Log h6439 hp56 hx6858 hrow6861 hwin6862 (List.forall_mem_nil _)
 refine WL.load1 .r rfl rfl rfl Try.underlying28 rfl rfl hrow6861 ((win_get (m := 5) hwin6862 (show (5 : Nat) < 9 by decide)).trans rfl) ?_
 refine WL.len .r rfl rfl rfl Try.underlying28 rfl ?_
 refine WL.bin .r rfl rfl rfl rfl rfl rfl ?_
 refine WL.move .r rfl rfl rfl rfl ?_
 refine WL.guardD rfl rfl rfl (fun hg6879 => ?_) (fun hg6879 => ?_)
 {
 replace hr := ite_pos hr hg6879
 refine WL.move .r rfl rfl rfl rfl ?_
 refine WL.move .r rfl rfl rfl rfl ?_
 obtain ⟨x6880, hx6880, hr⟩ := bnd_some hr
 refine GL.callP g.good .r rfl rfl rfl rfl rfl rfl Try.func94 rfl rfl (Nat.le_refl _) (f_impl_Peer_term_elem0_k  g hS6433 hrow6861 hwin6862 h6876 hx6880) (fun v n6881 H6882 hn6883 hk6884 hp6885 => ?_)
 obtain ⟨hS6886, rfl⟩ := hp6885
 have ho6887 := (hk6884 _ (by have := lt5881; omega)).trans ho6436
 have ho6888 := (hk6884 _ (by have := lt5882; omega)).trans ho6437
 have ho6889 := (hk6884 _ (by have := lt5883; omega)).trans ho6438
 have ho6890 := (hk6884 _ (by have := lt6425; omega)).trans ho6434
 have h6891 := OD.keep (n' := n6881) h6877 (by omega) (fun i hi => hk6884 i (OD.id_lt h6877 hi).2)
 have h6892 := OW.keep (n' := n6881) h6440 (by omega) (fun i hi => hk6884 i (OW.id_lt h6440 hi).2)
 have h6893 := OW.keep (n' := n6881) h6441 (by omega) (fun i hi => hk6884 i (OW.id_lt h6441 hi).2)
 have h6894 := OW.keep (n' := n6881) h6876 (by omega) (fun i hi => hk6884 i (OW.id_lt h6876 hi).2)
 have hS6895 : St lo n6881 H6882 F5850 := ⟨by have := hS6433.lo; omega, hS6886.hb, hS6886.fh⟩
 have hlon6881 := hS6895.lo
 refine WL.fieldAddr .r rfl rfl rfl Try.underlying35 rfl info3 rfl rfl ?_
 refine WL.load1 .r rfl rfl rfl Try.underlying3 rfl rfl ho6890 rfl ?_
 refine WL.bin .r rfl rfl rfl rfl rfl rfl ?_
 refine WL.pick .r rfl rfl rfl rfl rfl ?_
 refine WL.nil ?_
 refine Ex.thn_norm ?_
 obtain ⟨S6896, hs6897, h6898⟩ := GPeer.close0_Log h6891 hx6858 h6894
 exact ⟨[(0, .pointer (some ⟨p0, 0, none⟩)), (4, .pointer (some ⟨n0, 0, none⟩)), (5, .pointer (some ⟨(n0 + 1), 0, none⟩)), (6, .pointer (some ⟨b54, el55, none⟩)), (7, .int .i64 x6409.Index), (9, .pointer (some ⟨n5848, 0, none⟩)), (75, .slice a19 x18.Log.length cap20), (76, .int .i64 (x18.Log.length : Int)), (77, .int .i64 x5855), (97, .bool (!decide (x6880 = x6409.Term)))], (Fr.le_cons rfl (Fr.le_cons rfl (Fr.le_cons rfl (Fr.le_cons rfl (Fr.le_cons rfl (Fr.le_cons rfl (Fr.le_cons rfl (Fr.le_cons rfl (Fr.le_cons rfl (Fr.le_cons rfl Fr.le_nil)))))))))), (!decide (x6880 = x6409.Term)), S6896, F5850, rfl, hS6895, (hE5852.up (by omega)), ho6887, fo5858, ho6888, fo5860, ho6890, fo6424, ho6889, fo5868, h5854, h5856, h6419, h6898, h6892, h6893, (Ap.or0 hs6897 (Ap.sub0 hs6873 ap5869) (Ap.sub0 hs6874 ap5869)), (Ap.or0 hs6897 (Ap.sub0 hs6873 ap5870) (Ap.sub0 hs6874 ap5870)), (Ap.or0 hs6897 (Ap.sub0 hs6873 (Ap.alloc (OD.hb h5862))) (Ap.sub0 hs6874 (Ap.alloc (OD.hb h5862)))), (Ap.or0 hs6897 (Ap.sub0 hs6873 ap5871) (Ap.sub0 hs6874 ap5871)), ap5872, ap5873, (Ap.alloc (OW.hb h5865)), ap5874, (Ap.sym (Ap.or hs6897 (Ap.sub hs6873 (Ap.sym ap5875)) (Ap.sub hs6874 (Ap.sym ap5875)))), ap5876, ap5877, (Ap.alloc (OW.hb h5866)), ap5878, (Ap.sym (Ap.or hs6897 (Ap.sub hs6873 (Ap.sym ap5879)) (Ap.sub hs6874 (Ap.sym ap5879)))), ap5880, hr⟩
 }
 {
 replace hr := ite_neg hr hg6879
 refine WL.skip .r rfl rfl ?_
 refine WL.skip .r rfl rfl ?_
 refine WL.skip .r rfl rfl ?_
 refine WL.skip .r rfl rfl ?_
 refine WL.skip .r rfl rfl ?_
 refine WL.skip .r rfl rfl ?_
 refine WL.pick .r rfl rfl rfl rfl rfl ?_
 refine WL.nil ?_
 refine Ex.thn_norm ?_
 obtain ⟨S6899, hs6900, h6901⟩ := GPeer.close0_Log h6877 hx6858 h6876
 exact ⟨[(0, .pointer (some ⟨p0, 0, none⟩)), (4, .pointer (some ⟨n0, 0, none⟩)), (5, .pointer (some ⟨(n0 + 1), 0, none⟩)), (6, .pointer (some ⟨b54, el55, none⟩)), (7, .int .i64 x6409.Index), (9, .pointer (some ⟨n5848, 0, none⟩)), (75, .slice a19 x18.Log.length cap20), (76, .int .i64 (x18.Log.length : Int)), (77, .int .i64 x5855), (97, .bool false)], (Fr.le_cons rfl (Fr.le_cons rfl (Fr.le_cons rfl (Fr.le_cons rfl (Fr.le_cons rfl (Fr.le_cons rfl (Fr.le_cons rfl (Fr.le_cons rfl (Fr.le_cons rfl (Fr.le_cons rfl Fr.le_nil)))))))))), false, S6899, F5850, rfl, hS6433, (hE5852.up (by omega)), ho6436, fo5858, ho6437, fo5860, ho6434, fo6424, ho6438, fo5868, h5854, h5856, h6419, h6901, h6440, h6441, (Ap.or0 hs6900 (Ap.sub0 hs6873 ap5869) (Ap.sub0 hs6874 ap5869)), (Ap.or0 hs6900 (Ap.sub0 hs6873 ap5870) (Ap.sub0 hs6874 ap5870)), (Ap.or0 hs6900 (Ap.sub0 hs6873 (Ap.alloc (OD.hb h5862))) (Ap.sub0 hs6874 (Ap.alloc (OD.hb h5862)))), (Ap.or0 hs6900 (Ap.sub0 hs6873 ap5871) (Ap.sub0 hs6874 ap5871)), ap5872, ap5873, (Ap.alloc (OW.hb h5865)), ap5874, (Ap.sym (Ap.or hs6900 (Ap.sub hs6873 (Ap.sym ap5875)) (Ap.sub hs6874 (Ap.sym ap5875)))), ap5876, ap5877, (Ap.alloc (OW.hb h5866)), ap5878, (Ap.sym (Ap.or hs6900 (Ap.sub hs6873 (Ap.sym ap5879)) (Ap.sub hs6874 (Ap.sym ap5879)))), ap5880, hr⟩
 }
 }
 {
 intro _ n6486 H6487 hI
 obtain ⟨x6492, S6502, F6488, rfl, hS6489, hE6490, ho6494, fo6495, ho6496, fo6497, ho6499, fo6500, ho6505, fo6506, h6491, h6493, h6498, h6501, h6503, h6504, ap6507, ap6508, ap6509, ap6510, ap6511, ap6512, ap6513, ap6514, ap6515, ap6516, ap6517, ap6518, ap6519, ap6520, ap6521, hr⟩ := hI
 have lt6522 := hS6489.lt ho6494
 have lt6523 := hS6489.lt ho6496
 have lt6524 := hS6489.lt ho6499
 have lt6525 := hS6489.lt ho6505
 have hlen6486 := hE6490.le
 have hlon6486 := hS6489.lo
 unfold f_impl_Cluster_take_J4 at hr
 refine W.cut (fun fr n H => ∃ (xs6632 : (List GPeer)) (S6635 : Nat → Prop) (F : Heap), fr = [(0, .pointer (some ⟨p0, 0, none⟩)), (4, .pointer (some ⟨n0, 0, none⟩)), (5, .pointer (some ⟨(n0 + 1), 0, none⟩)), (6, .pointer (some ⟨b54, el55, none⟩)), (7, .int .i64 x6409.Index), (9, .pointer (some ⟨n5848, 0, none⟩)), (75, .slice a19 x18.Log.length cap20), (76, .int .i64 (x18.Log.length : Int)), (77, .int .i64 x5855)] ∧ St lo n H F ∧ Ext n0 F0 n F ∧ H (n0 + 1) = some (.row 1 [.int .i64 4, .int .i64 x22.From, .int .i64 x22.To, .int .i64 x275.Term, .int .i64 x22.A, .int .i64 x22.B, .int .i64 x22.C, .bool x22.Ok, .slice a23 x22.Log.length cap24]) ∧ F (n0 + 1) = none ∧ H n0 = some (.row 1 [.int .i64 x18.Kind, .int .i64 x18.From, .int .i64 x18.To, .int .i64 x18.Term, .int .i64 x18.A, .int .i64 x18.B, .int .i64 x18.C, .bool x18.Ok, .slice a19 x18.Log.length cap20]) ∧ F n0 = none ∧ H n5848 = some (.row 1 [.int .i64 x6409.Term, .int .i64 x6409.Index, .slice a6417 x6409.Data.length cap6418]) ∧ F n5848 = none ∧ H p0 = some (.row ez0 [.slice a2 x1.Peers.length cap3, .slice a7 x1.Net.length cap8, .slice a11 x1.Chosen.length cap12, .bool x1.Conflict]) ∧ F p0 = none ∧ SR F (.slice a19 x18.Log.length cap20) x18.Log ∧ SR F (.slice a23 x22.Log.length cap24) x22.Log ∧ SR F (.slice a6417 x6409.Data.length cap6418) x6409.Data ∧ OD lo n H F S6635 [] (.slice a2 x1.Peers.length cap3) xs6632 ∧ x1.Peers.length = xs6632.length ∧ OW lo n H F (.slice a7 x1.Net.length cap8) x1.Net ∧ OW lo n H F (.slice a11 x1.Chosen.length cap12) x1.Chosen ∧ ¬ S6635 (n0 + 1) ∧ ¬ S6635 n0 ∧ ¬ S6635 n5848 ∧ ¬ S6635 p0 ∧ idOf (.slice a7 x1.Net.length cap8) ≠ some (n0 + 1) ∧ idOf (.slice a7 x1.Net.length cap8) ≠ some n0 ∧ idOf (.slice a7 x1.Net.length cap8) ≠ some n5848 ∧ idOf (.slice a7 x1.Net.length cap8) ≠ some p0 ∧ (∀ b, idOf (.slice a7 x1.Net.length cap8) = some b → ¬ S6635 b) ∧ idOf (.slice a11 x1.Chosen.length cap12) ≠ some (n0 + 1) ∧ idOf (.slice a11 x1.Chosen.length cap12) ≠ some n0 ∧ idOf (.slice a11 x1.Chosen.length cap12) ≠ some n5848 ∧ idOf (.slice a11 x1.Chosen.length cap12) ≠ some p0 ∧ (∀ b, idOf (.slice a11 x1.Chosen.length cap12) = some b → ¬ S6635 b) ∧ (∀ b, idOf (.slice a11 x1.Chosen.length cap12) = some b → idOf (.slice a7 x1.Net.length cap8) ≠ some b) ∧ f_impl_Cluster_take_J5 x18 x6409 x5855 (f_impl_Cluster_take_L2 x18 x1 x22 x275 k2) xs6632 = some res) ?_ ?_
 {
 refine W.cond rfl (fun hc6766 => ?_) (fun hc6766 => ?_)
 {
 replace hr := iteB_pos hr hc6766
 with_reducible refine W.region ?_
 refine WL.move .nil rfl rfl rfl rfl ?_
 refine WL.move .nil rfl rfl rfl rfl ?_
 refine WL.nilCheck .nil rfl rfl rfl rfl ?_
 refine WL.fieldAddr .nil rfl rfl rfl Try.underlying42 rfl info28 rfl rfl ?_
 obtain ⟨x6767, hx6767, hr⟩ := bnd_some hr
 obtain ⟨c6768, ecs6769, hrow6770, hwin6771, hb6772⟩ := OD.get h6501 hp56 hx6767
 obtain ⟨a6773, cap6774, a6775, cap6776, a6777, cap6778, a6779, cap6780, rfl⟩ := GPeer.ofB hb6772
 obtain ⟨S6781, hs6782, hs6783, hs6784, h6785, h6786⟩ := GPeer.open_Log h6501 hp56 hx6767 hrow6770 hwin6771 (List.forall_mem_nil _)
 refine WL.load1 .nil rfl rfl rfl Try.underlying28 rfl rfl hrow6770 ((win_get (m := 5) hwin6771 (show (5 : Nat) < 9 by decide)).trans rfl) ?_
 refine WL.move .nil rfl rfl rfl rfl ?_
 obtain ⟨hc6788, hr⟩ := chk_some hr
 refine WL.subI .nil rfl rfl rfl rfl rfl hc6788.1 hc6788.2 ?_
 obtain ⟨xs6789, hxs6789, hr⟩ := bnd_some hr
 refine GL.sliceO .nil rfl rfl rfl Try.underlying28 info35 rfl rfl h6785 rfl ⟨_, rfl⟩ hxs6789 (fun a6790 cap6791 hid6792 h6793 => ?_)
 obtain ⟨x6795, hx6795, hr⟩ := bnd_some hr
 refine GL.callP g.good .nil rfl rfl rfl rfl rfl rfl Try.func114 rfl rfl hS6489.lo (f_slices_Clone_implRec_k  g hS6489 (OW.src h6793) hx6795) (fun v n6796 H6797 hn6798 hk6799 hp6800 => ?_)
 obtain ⟨a6801, cap6802, hS6804, rfl, h6803⟩ := hp6800
 have ho6805 := (hk6799 _ (by have := lt6522; omega)).trans ho6494
 have ho6806 := (hk6799 _ (by have := lt6523; omega)).trans ho6496
 have ho6807 := (hk6799 _ (by have := lt6524; omega)).trans ho6499
 have ho6808 := (hk6799 _ (by have := lt6525; omega)).trans ho6505
 have h6809 := OD.keep (n' := n6796) h6786 (by omega) (fun i hi => hk6799 i (OD.id_lt h6786 hi).2)
 have h6810 := OW.keep (n' := n6796) h6503 (by omega) (fun i hi => hk6799 i (OW.id_lt h6503 hi).2)
 have h6811 := OW.keep (n' := n6796) h6504 (by omega) (fun i hi => hk6799 i (OW.id_lt h6504 hi).2)
 have h6812 := OW.keep (n' := n6796) h6785 (by omega) (fun i hi => hk6799 i (OW.id_lt h6785 hi).2)
 have h6813 := OW.keep (n' := n6796) h6793 (by omega) (fun i hi => hk6799 i (OW.id_lt h6793 hi).2)
 have hS6814 : St lo n6796 H6797 F6488 := ⟨by have := hS6489.lo; omega, hS6804.hb, hS6804.fh⟩
 have hlon6796 := hS6814.lo
 have h6815 := OW.lower (lo' := n0) h6803 (by omega)
 refine WL.nilCheck .nil rfl rfl rfl rfl ?_
 refine WL.fieldAddr .nil rfl rfl rfl Try.underlying42 rfl info28 rfl rfl ?_
 obtain ⟨c6826, ecs6827, hrow6828, hwin6829, hb6830⟩ := OD.get h6809 hp56 hx6767
 obtain ⟨a6831, cap6832, a6833, cap6834, a6835, cap6836, a6837, cap6838, rfl⟩ := GPeer.ofB hb6830
 have hq6839 := OD.hole h6809 hp56 hx6767 hrow6828 hwin6829
 obtain ⟨rfl, rfl⟩ := hdr_eq (a := a6831) (c := cap6832) hq6839
 refine GL.store hS6814 .nil (vc := [.slice a6801 x6795.length cap6802]) rfl rfl rfl info28 rfl rfl rfl rfl hrow6828 (OD.fnone h6809 (OD.bS h6809 hp56)) (win_fit2 hwin6829 (Nat.le_of_ble_eq_true rfl) rfl (Nat.le_of_ble_eq_true rfl)) (by have := (OD.id_lt h6809 (OD.bS h6809 hp56)).1; omega) (one1 rfl) rfl (fun H6840 hS6841 ho6842 hk6843 => ?_)
 have ho6844 := (hk6843 (n0 + 1) (fun hj => (Ap.sub0 hs6782 ap6507) (by rw [hj]; exact (OD.bS h6809 hp56)))).trans ho6805
 have ho6845 := (hk6843 n0 (fun hj => (Ap.sub0 hs6782 ap6508) (by rw [hj]; exact (OD.bS h6809 hp56)))).trans ho6806
 have ho6846 := (hk6843 n5848 (fun hj => (Ap.sub0 hs6782 ap6509) (by rw [hj]; exact (OD.bS h6809 hp56)))).trans ho6807
 have ho6847 := (hk6843 p0 (fun hj => (Ap.sub0 hs6782 ap6510) (by rw [hj]; exact (OD.bS h6809 hp56)))).trans ho6808
 have h6848 := OW.keep h6810 (Nat.le_refl _) (fun i hi => hk6843 i (fun hj => (Ap.sym (Ap.sub hs6782 (Ap.sym ap6515))) i hi (by rw [hj]; exact (OD.bS h6809 hp56))))
 have h6849 := OW.keep h6811 (Nat.le_refl _) (fun i hi => hk6843 i (fun hj => (Ap.sym (Ap.sub hs6782 (Ap.sym ap6520))) i hi (by rw [hj]; exact (OD.bS h6809 hp56))))
 have h6850 := OW.keep h6812 (Nat.le_refl _) (fun i hi => hk6843 i (fun hj => hs6784 i hi (by rw [hj]; exact (OD.bS h6809 hp56))))
 have h6851 := OW.keep h6813 (Nat.le_refl _) (fun i hi => hk6843 i (fun hj => (Ap.sub hid6792 hs6784) i hi (by rw [hj]; exact (OD.bS h6809 hp56))))
 have h6852 := OW.keep h6815 (Nat.le_refl _) (fun i hi => hk6843 i (fun hj => (Ap.fresh (OW.lb h6803) (OD.hb h6786)) i hi (by rw [hj]; exact (OD.bS h6809 hp56))))
 obtain ⟨S6854, hs6855, h6853⟩ := GPeer.set_Log h6809 hp56 hx6767 hrow6828 hwin6829 (OW.lower h6815 (by omega)) (fun i hi => (Ap.fresh (OW.lb h6803) (OD.hb h6786)) i hi) z10 z00 ho6842 hk6843
 have hl6856 : x1.Peers.length = (setI xs5861 x18.To ({ Up := x6767.Up, Term := x6767.Term, Vote := x6767.Vote, Commit := x6767.Commit, Role := x6767.Role, Log := x6795, Votes := x6767.Votes, Next := x6767.Next, Match := x6767.Match } : GPeer)).length := hl5863.trans (by rw [setI_length])
 have hx6857 : idx (setI xs5861 x18.To ({ Up := x6767.Up, Term := x6767.Term, Vote := x6767.Vote, Commit := x6767.Commit, Role := x6767.Role, Log := x6795, Votes := x6767.Votes, Next := x6767.Next, Match := x6767.Match } : GPeer)) x18.To = some ({ Up := x6767.Up, Term := x6767.Term, Vote := x6767.Vote, Commit := x6767.Commit, Role := x6767.Role, Log := x6795, Votes := x6767.Votes, Next := x6767.Next, Match := x6767.Match } : GPeer) := idx_setI_same hx6767
 refine WL.nil ?_
 refine Ex.thn_norm ?_
 exact ⟨[(0, .pointer (some ⟨p0, 0, none⟩)), (4, .pointer (some ⟨n0, 0, none⟩)), (5, .pointer (some ⟨(n0 + 1), 0, none⟩)), (6, .pointer (some ⟨b54, el55, none⟩)), (7, .int .i64 x6409.Index), (9, .pointer (some ⟨n5848, 0, none⟩)), (75, .slice a19 x18.Log.length cap20), (76, .int .i64 (x18.Log.length : Int)), (77, .int .i64 x5855)], (Fr.le_cons rfl (Fr.le_cons rfl (Fr.le_cons rfl (Fr.le_cons rfl (Fr.le_cons rfl (Fr.le_cons rfl (Fr.le_cons rfl (Fr.le_cons rfl (Fr.le_cons rfl Fr.le_nil))))))))), (setI xs5861 x18.To ({ Up := x6767.Up, Term := x6767.Term, Vote := x6767.Vote, Commit := x6767.Commit, Role := x6767.Role, Log := x6795, Votes := x6767.Votes, Next := x6767.Next, Match := x6767.Match } : GPeer)), S6854, F6488, rfl, hS6841, (hE6490.up (by omega)), ho6844, fo6495, ho6845, fo6497, ho6846, fo6500, ho6847, fo6506, h6491, h6493, h6498, h6853, hl6856, h6848, h6849, (Ap.or0 hs6855 (Ap.sub0 hs6782 ap6507) (Ap.fresh0 (OW.lb h6803) (by have := lt6522; omega))), (Ap.or0 hs6855 (Ap.sub0 hs6782 ap6508) (Ap.fresh0 (OW.lb h6803) (by have := lt6523; omega))), (Ap.or0 hs6855 (Ap.sub0 hs6782 ap6509) (Ap.fresh0 (OW.lb h6803) (by have := lt6524; omega))), (Ap.or0 hs6855 (Ap.sub0 hs6782 ap6510) (Ap.fresh0 (OW.lb h6803) (by have := lt6525; omega))), ap6511, ap6512, ap6513, ap6514, (Ap.sym (Ap.or hs6855 (Ap.sub hs6782 (Ap.sym ap6515)) (Ap.fresh (OW.lb h6803) (OW.hb h6503)))), ap6516, ap6517, ap6518, ap6519, (Ap.sym (Ap.or hs6855 (Ap.sub hs6782 (Ap.sym ap6520)) (Ap.fresh (OW.lb h6803) (OW.hb h6504)))), ap6521, hr⟩
 }
 {
 replace hr := iteB_neg hr hc6766
 with_reducible refine W.skip ?_
 refine Ex.thn_norm ?_
 exact ⟨[(0, .pointer (some ⟨p0, 0, none⟩)), (4, .pointer (some ⟨n0, 0, none⟩)), (5, .pointer (some ⟨(n0 + 1), 0, none⟩)), (6, .pointer (some ⟨b54, el55, none⟩)), (7, .int .i64 x6409.Index), (9, .pointer (some ⟨n5848, 0, none⟩)), (75, .slice a19 x18.Log.length cap20), (76, .int .i64 (x18.Log.length : Int)), (77, .int .i64 x5855)], (Fr.le_cons rfl (Fr.le_cons rfl (Fr.le_cons rfl (Fr.le_cons rfl (Fr.le_cons rfl (Fr.le_cons rfl (Fr.le_cons rfl (Fr.le_cons rfl (Fr.le_cons rfl Fr.le_nil))))))))), xs5861, S6502, F6488, rfl, hS6489, hE6490, ho6494, fo6495, ho6496, fo6497, ho6499, fo6500, ho6505, fo6506, h6491, h6493, h6498, h6501, hl5863, h6503, h6504, ap6507, ap6508, ap6509, ap6510, ap6511, ap6512, ap6513, ap6514, ap6515, ap6516, ap6517, ap6518, ap6519, ap6520, ap6521, hr⟩
 }
 }
 {
 intro _ n6618 H6619 hI
 obtain ⟨xs6632, S6635, F6620, rfl, hS6621, hE6622, ho6625, fo6626, ho6627, fo6628, ho6630, fo6631, ho6638, fo6639, h6623, h6624, h6629, h6633, hl6634, h6636, h6637, ap6640, ap6641, ap6642, ap6643, ap6644, ap6645, ap6646, ap6647, ap6648, ap6649, ap6650, ap6651, ap6652, ap6653, ap6654, hr⟩ := hI
 have lt6655 := hS6621.lt ho6625
 have lt6656 := hS6621.lt ho6627
 have lt6657 := hS6621.lt ho6630
 have lt6658 := hS6621.lt ho6638
 have hlen6618 := hE6622.le
 have hlon6618 := hS6621.lo
 unfold f_impl_Cluster_take_J5 at hr
 with_reducible refine W.seq ?_
 with_reducible refine W.region ?_
 refine WL.move .nil rfl rfl rfl rfl ?_
 refine WL.move .nil rfl rfl rfl rfl ?_
 refine WL.nilCheck .nil rfl rfl rfl rfl ?_
 refine WL.fieldAddr .nil rfl rfl rfl Try.underlying42 rfl info28 rfl rfl ?_
 obtain ⟨x6659, hx6659, hr⟩ := bnd_some hr
 obtain ⟨c6660, ecs6661, hrow6662, hwin6663, hb6664⟩ := OD.get h6633 hp56 hx6659
 obtain ⟨a6665, cap6666, a6667, cap6668, a6669, cap6670, a6671, cap6672, rfl⟩ := GPeer.ofB hb6664
 obtain ⟨S6673, hs6674, hs6675, hs6676, h6677, h6678⟩ := GPeer.open_Log h6633 hp56 hx6659 hrow6662 hwin6663 (List.forall_mem_nil _)
 refine WL.load1 .nil rfl rfl rfl Try.underlying28 rfl rfl hrow6662 ((win_get (m := 5) hwin6663 (show (5 : Nat) < 9 by decide)).trans rfl) ?_
 refine WL.len .nil rfl rfl rfl Try.underlying28 rfl ?_
 refine WL.bin .nil rfl rfl rfl rfl rfl rfl ?_
 refine WL.nil ?_
 refine Ex.thn_norm ?_
 refine W.condD rfl (fun hc6680 => ?_) (fun hc6680 => ?_)
 {
 replace hr := ite_pos hr hc6680
 refine W.regionI (fun H => True) [0, 1, 2, 3, 4, 5, 6, 7, 8, 9, 10] [(false, true, false), (false, false, false), (false, false, false), (false, false, false), (false, false, false), (false, false, false), (false, false, false), (true, false, false), (false, false, false), (false, false, false), (true, false, true)] false rfl (by kernel_rfl) (by kernel_rfl) (by (conv => lhs; simp only [List.map_cons, List.map_nil, List.getD_cons_zero, List.getD_cons_succ]) <;> rfl) ?_
 refine WLI.late (v := .pointer (some ⟨b54, el55, none⟩)) (fun h => by cases h) rfl rfl (fun H2 hI2 => .move (.inl rfl) rfl) ?_
 refine WLI.op (fun h => by cases h) ?_
 refine WL.move .r rfl rfl rfl rfl ?_
 with_reducible refine WL.nil ⟨rfl, ?_⟩
 refine WLI.op (fun h => by cases h) ?_
 refine WL.nilCheck .r rfl rfl rfl rfl ?_
 with_reducible refine WL.nil ⟨rfl, ?_⟩
 refine WLI.op (fun h => by cases h) ?_
 refine WL.fieldAddr .r rfl rfl rfl Try.underlying42 rfl info28 rfl rfl ?_
 with_reducible refine WL.nil ⟨rfl, ?_⟩
 refine WLI.op (fun h => by cases h) ?_
 refine WL.load1 .r rfl rfl rfl Try.underlying28 rfl rfl hrow6662 ((win_get (m := 5) hwin6663 (show (5 : Nat) < 9 by decide)).trans rfl) ?_
 with_reducible refine WL.nil ⟨rfl, ?_⟩
 refine WLI.op (fun h => by cases h) ?_
 refine WL.loadN .r (l' := [.int .i64 x6409.Term, .int .i64 x6409.Index, .slice a6417 x6409.Data.length cap6418]) rfl rfl rfl Try.underlying35 rfl info35 rfl ho6630 rfl rfl ?_
 with_reducible refine WL.nil ⟨rfl, ?_⟩
 refine WLI.op (fun h => by cases h) ?_
 refine GL.lit (cs := [.int .i64 x6409.Term, .int .i64 x6409.Index, .slice a6417 x6409.Data.length cap6418]) (xs := ([({ Term := x6409.Term, Index := x6409.Index, Data := x6409.Data } : GRec)] : List GRec)) hS6621 .r rfl rfl rfl Try.underlying28 info35 rfl rfl rfl (by decide) (by decide) rfl rfl rfl rfl rfl (RA.cons (cs := [.int .i64 x6409.Term, .int .i64 x6409.Index, .slice a6417 x6409.Data.length cap6418]) (a := (({ Term := x6409.Term, Index := x6409.Index, Data := x6409.Data } : GRec) : GRec)) (GRec.toR (x := ({ Term := x6409.Term, Index := x6409.Index, Data := x6409.Data } : GRec)) h6629) RA.nil) rfl (fun H6682 hS6683 hO6684 hk6685 => ?_)
 have ho6686 := (hk6685 _ (by have := lt6655; omega)).trans ho6625
 have ho6687 := (hk6685 _ (by have := lt6656; omega)).trans ho6627
 have ho6688 := (hk6685 _ (by have := lt6657; omega)).trans ho6630
 have ho6689 := (hk6685 _ (by have := lt6658; omega)).trans ho6638
 have h6690 := OD.keep (n' := (n6618 + 1)) h6678 (by omega) (fun i hi => hk6685 i (OD.id_lt h6678 hi).2)
 have h6691 := OW.keep (n' := (n6618 + 1)) h6636 (by omega) (fun i hi => hk6685 i (OW.id_lt h6636 hi).2)
 have h6692 := OW.keep (n' := (n6618 + 1)) h6637 (by omega) (fun i hi => hk6685 i (OW.id_lt h6637 hi).2)
 have h6693 := OW.keep (n' := (n6618 + 1)) h6677 (by omega) (fun i hi => hk6685 i (OW.id_lt h6677 hi).2)
 have h6694 := OW.lower (lo' := n0) hO6684 (by omega)
 have hlon66181 := hS6683.lo
 with_reducible refine WL.nil ⟨rfl, ?_⟩
 refine WLI.op (fun h => by cases h) ?_
 obtain ⟨hc6704, hr⟩ := chk_some hr
 refine GL.append (α := GRec) hS6683 .w rfl rfl rfl Try.underlying28 Try.underlying28 rfl info35 rfl rfl rfl (by decide) rfl rfl h6693 (by omega) (by omega) (OW.src h6694) hc6704 (fun a6705 cap6706 n6707 H6708 hS6709 hn6710 hO6711 hk6712 hid6713 => ?_)
 have ho6714 := (hk6712 _ (by have := lt6655; omega) (Ap.sub0 hs6675 ap6640)).trans ho6686
 have ho6715 := (hk6712 _ (by have := lt6656; omega) (Ap.sub0 hs6675 ap6641)).trans ho6687
 have ho6716 := (hk6712 _ (by have := lt6657; omega) (Ap.sub0 hs6675 ap6642)).trans ho6688
 have ho6717 := (hk6712 _ (by have := lt6658; omega) (Ap.sub0 hs6675 ap6643)).trans ho6689
 have h6718 := OD.keep h6690 hn6710 (fun i hi => hk6712 i (OD.id_lt h6690 hi).2 (fun hj => hs6676 _ hj hi))
 have h6719 := OW.keep h6691 hn6710 (fun i hi => hk6712 i (OW.id_lt h6691 hi).2 (fun hj => (Ap.sub hs6675 (Ap.sym ap6648)) _ hj hi))
 have h6720 := OW.keep h6692 hn6710 (fun i hi => hk6712 i (OW.id_lt h6692 hi).2 (fun hj => (Ap.sub hs6675 (Ap.sym ap6653)) _ hj hi))
 have h6721 := OW.keep h6694 hn6710 (fun i hi => hk6712 i (OW.id_lt h6694 hi).2 (fun hj => (Ap.sym (Ap.fresh (OW.lb hO6684) (OW.hb h6677))) _ hj hi))
 have hlon6707 := hS6709.lo
 with_reducible refine WL.nil ⟨rfl, ?_⟩
 refine WLI.op (fun h => by cases h) ?_
 refine WL.nilCheck .r rfl rfl rfl rfl ?_
 with_reducible refine WL.nil ⟨rfl, ?_⟩
 refine WLI.op (fun h => by cases h) ?_
 refine WL.fieldAddr .r rfl rfl rfl Try.underlying42 rfl info28 rfl rfl ?_
 with_reducible refine WL.nil ⟨rfl, ?_⟩
 refine WLI.op (fun _ => trivial) ?_
 obtain ⟨c6731, ecs6732, hrow6733, hwin6734, hb6735⟩ := OD.get h6718 hp56 hx6659
 obtain ⟨a6736, cap6737, a6738, cap6739, a6740, cap6741, a6742, cap6743, rfl⟩ := GPeer.ofB hb6735
 have hq6744 := OD.hole h6718 hp56 hx6659 hrow6733 hwin6734
 obtain ⟨rfl, rfl⟩ := hdr_eq (a := a6736) (c := cap6737) hq6744
 refine GL.store hS6709 .w (vc := [.slice a6705 (x6659.Log ++ ([({ Term := x6409.Term, Index := x6409.Index, Data := x6409.Data } : GRec)] : List GRec)).length cap6706]) rfl rfl rfl info28 rfl rfl rfl rfl hrow6733 (OD.fnone h6718 (OD.bS h6718 hp56)) (win_fit2 hwin6734 (Nat.le_of_ble_eq_true rfl) rfl (Nat.le_of_ble_eq_true rfl)) (by have := (OD.id_lt h6718 (OD.bS h6718 hp56)).1; omega) (one1 rfl) rfl (fun H6745 hS6746 ho6747 hk6748 => ?_)
 have ho6749 := (hk6748 (n0 + 1) (fun hj => (Ap.sub0 hs6674 ap6640) (by rw [hj]; exact (OD.bS h6718 hp56)))).trans ho6714
 have ho6750 := (hk6748 n0 (fun hj => (Ap.sub0 hs6674 ap6641) (by rw [hj]; exact (OD.bS h6718 hp56)))).trans ho6715
 have ho6751 := (hk6748 n5848 (fun hj => (Ap.sub0 hs6674 ap6642) (by rw [hj]; exact (OD.bS h6718 hp56)))).trans ho6716
 have ho6752 := (hk6748 p0 (fun hj => (Ap.sub0 hs6674 ap6643) (by rw [hj]; exact (OD.bS h6718 hp56)))).trans ho6717
 have h6753 := OW.keep h6719 (Nat.le_refl _) (fun i hi => hk6748 i (fun hj => (Ap.sym (Ap.sub hs6674 (Ap.sym ap6648))) i hi (by rw [hj]; exact (OD.bS h6718 hp56))))
 have h6754 := OW.keep h6720 (Nat.le_refl _) (fun i hi => hk6748 i (fun hj => (Ap.sym (Ap.sub hs6674 (Ap.sym ap6653))) i hi (by rw [hj]; exact (OD.bS h6718 hp56))))
 have h6755 := OW.keep h6721 (Nat.le_refl _) (fun i hi => hk6748 i (fun hj => (Ap.fresh (OW.lb hO6684) (OD.hb h6678)) i hi (by rw [hj]; exact (OD.bS h6718 hp56))))
 have h6756 := OW.keep hO6711 (Nat.le_refl _) (fun i hi => hk6748 i (fun hj => (Ap.new hid6713 (OD.hb h6690) hs6676) i hi (by rw [hj]; exact (OD.bS h6718 hp56))))
 obtain ⟨S6758, hs6759, h6757⟩ := GPeer.set_Log h6718 hp56 hx6659 hrow6733 hwin6734 hO6711 (fun i hi => (Ap.new hid6713 (OD.hb h6690) hs6676) i hi) z10 z00 ho6747 hk6748
 have ap6760 : ∀ b, S6758 b → idOf (.slice (some ⟨n6618, 0, none⟩) ([({ Term := x6409.Term, Index := x6409.Index, Data := x6409.Data } : GRec)] : List GRec).length 1) ≠ some b := Ap.or hs6759 (Ap.sym (Ap.fresh (OW.lb hO6684) (OD.hb h6678))) (Ap.new hid6713 (OW.hb h6694) (Ap.sym (Ap.fresh (OW.lb hO6684) (OW.hb h6677))))
 have hl6761 : x1.Peers.length = (setI xs6632 x18.To ({ Up := x6659.Up, Term := x6659.Term, Vote := x6659.Vote, Commit := x6659.Commit, Role := x6659.Role, Log := (x6659.Log ++ ([({ Term := x6409.Term, Index := x6409.Index, Data := x6409.Data } : GRec)] : List GRec)), Votes := x6659.Votes, Next := x6659.Next, Match := x6659.Match } : GPeer)).length := hl6634.trans (by rw [setI_length])
 have hx6762 : idx (setI xs6632 x18.To ({ Up := x6659.Up, Term := x6659.Term, Vote := x6659.Vote, Commit := x6659.Commit, Role := x6659.Role, Log := (x6659.Log ++ ([({ Term := x6409.Term, Index := x6409.Index, Data := x6409.Data } : GRec)] : List GRec)), Votes := x6659.Votes, Next := x6659.Next, Match := x6659.Match } : GPeer)) x18.To = some ({ Up := x6659.Up, Term := x6659.Term, Vote := x6659.Vote, Commit := x6659.Commit, Role := x6659.Role, Log := (x6659.Log ++ ([({ Term := x6409.Term, Index := x6409.Index, Data := x6409.Data } : GRec)] : List GRec)), Votes := x6659.Votes, Next := x6659.Next, Match := x6659.Match } : GPeer) := idx_setI_same hx6659
 with_reducible refine WL.nil ⟨rfl, ?_⟩
 refine WLI.nil (fun h => by cases h) ?_
 with_reducible refine Ex.blk_norm ?_
 refine Ex.thn_norm ?_
 exact ⟨[(0, .pointer (some ⟨p0, 0, none⟩)), (4, .pointer (some ⟨n0, 0, none⟩)), (5, .pointer (some ⟨(n0 + 1), 0, none⟩)), (6, .pointer (some ⟨b54, el55, none⟩)), (7, .int .i64 x6409.Index), (75, .slice a19 x18.Log.length cap20), (76, .int .i64 (x18.Log.length : Int)), (77, .int .i64 x5855)], (Fr.le_cons rfl (Fr.le_cons rfl (Fr.le_cons rfl (Fr.le_cons rfl (Fr.le_cons rfl (Fr.le_cons rfl (Fr.le_cons rfl (Fr.le_cons rfl Fr.le_nil)))))))), x6409.Index, (setI xs6632 x18.To ({ Up := x6659.Up, Term := x6659.Term, Vote := x6659.Vote, Commit := x6659.Commit, Role := x6659.Role, Log := (x6659.Log ++ ([({ Term := x6409.Term, Index := x6409.Index, Data := x6409.Data } : GRec)] : List GRec)), Votes := x6659.Votes, Next := x6659.Next, Match := x6659.Match } : GPeer)), S6758, F6620, rfl, hS6746, (hE6622.up (by omega)), ho6749, fo6626, ho6750, fo6628, ho6752, fo6639, h6623, h6624, h6757, hl6761, h6753, h6754, (Ap.or0 hs6759 (Ap.sub0 hs6674 ap6640) (Ap.new0 hid6713 (by have := lt6655; omega) (Ap.sub0 hs6675 ap6640))), (Ap.or0 hs6759 (Ap.sub0 hs6674 ap6641) (Ap.new0 hid6713 (by have := lt6656; omega) (Ap.sub0 hs6675 ap6641))), (Ap.or0 hs6759 (Ap.sub0 hs6674 ap6643) (Ap.new0 hid6713 (by have := lt6658; omega) (Ap.sub0 hs6675 ap6643))), ap6644, ap6645, ap6647, (Ap.sym (Ap.or hs6759 (Ap.sub hs6674 (Ap.sym ap6648)) (Ap.new hid6713 (OW.hb h6691) (Ap.sub hs6675 (Ap.sym ap6648))))), ap6649, ap6650, ap6652, (Ap.sym (Ap.or hs6759 (Ap.sub hs6674 (Ap.sym ap6653)) (Ap.new hid6713 (OW.hb h6692) (Ap.sub hs6675 (Ap.sym ap6653))))), ap6654, hr⟩
 }
 {
 replace hr := ite_neg hr hc6680
 with_reducible refine W.skip ?_
 with_reducible refine Ex.blk_norm ?_
 refine Ex.thn_norm ?_
 obtain ⟨S6763, hs6764, h6765⟩ := GPeer.close0_Log h6678 hx6659 h6677
 exact ⟨[(0, .pointer (some ⟨p0, 0, none⟩)), (4, .pointer (some ⟨n0, 0, none⟩)), (5, .pointer (some ⟨(n0 + 1), 0, none⟩)), (6, .pointer (some ⟨b54, el55, none⟩)), (7, .int .i64 x6409.Index), (75, .slice a19 x18.Log.length cap20), (76, .int .i64 (x18.Log.length : Int)), (77, .int .i64 x5855)], (Fr.le_cons rfl (Fr.le_cons rfl (Fr.le_cons rfl (Fr.le_cons rfl (Fr.le_cons rfl (Fr.le_cons rfl (Fr.le_cons rfl (Fr.le_cons rfl Fr.le_nil)))))))), x6409.Index, xs6632, S6763, F6620, rfl, hS6621, hE6622, ho6625, fo6626, ho6627, fo6628, ho6638, fo6639, h6623, h6624, h6765, hl6634, h6636, h6637, (Ap.or0 hs6764 (Ap.sub0 hs6674 ap6640) (Ap.sub0 hs6675 ap6640)), (Ap.or0 hs6764 (Ap.sub0 hs6674 ap6641) (Ap.sub0 hs6675 ap6641)), (Ap.or0 hs6764 (Ap.sub0 hs6674 ap6643) (Ap.sub0 hs6675 ap6643)), ap6644, ap6645, ap6647, (Ap.sym (Ap.or hs6764 (Ap.sub hs6674 (Ap.sym ap6648)) (Ap.sub hs6675 (Ap.sym ap6648)))), ap6649, ap6650, ap6652, (Ap.sym (Ap.or hs6764 (Ap.sub hs6674 (Ap.sym ap6653)) (Ap.sub hs6675 (Ap.sym ap6653)))), ap6654, hr⟩
 }
 }
 }
 }
 {
 intro _ n6373 H6374 hI
 obtain ⟨x6378, xs6385, S6388, F6375, rfl, hS6376, hE6377, ho6381, fo6382, ho6383, fo6384, ho6391, fo6392, h6379, h6380, h6386, hl6387, h6389, h6390, ap6393, ap6394, ap6395, ap6396, ap6397, ap6398, ap6399, ap6400, ap6401, ap6402, ap6403, ap6404, hr⟩ := hI
 have lt6405 := hS6376.lt ho6381
 have lt6406 := hS6376.lt ho6383
 have lt6407 := hS6376.lt ho6391
 have hlen6373 := hE6377.le
 have hlon6373 := hS6376.lo
 unfold f_impl_Cluster_take_J3 at hr
 with_reducible refine W.region ?_
 obtain ⟨hc6408, hr⟩ := chk_some hr
 refine WL.addI .nil rfl rfl rfl rfl rfl hc6408.1 hc6408.2 ?_
 refine WL.move .nil rfl rfl rfl rfl ?_
 refine WL.nil ?_
 refine Ex.thn_norm ?_
 exact ⟨[(0, .pointer (some ⟨p0, 0, none⟩)), (4, .pointer (some ⟨n0, 0, none⟩)), (5, .pointer (some ⟨(n0 + 1), 0, none⟩)), (6, .pointer (some ⟨b54, el55, none⟩)), (7, .int .i64 x6378), (75, .slice a19 x18.Log.length cap20), (76, .int .i64 (x18.Log.length : Int)), (77, .int .i64 (x5855 + 1))], (Fr.le_cons rfl (Fr.le_cons rfl (Fr.le_cons rfl (Fr.le_cons rfl (Fr.le_cons rfl (Fr.le_cons rfl (Fr.le_cons rfl (Fr.le_cons rfl Fr.le_nil)))))))), x6378, (x5855 + 1), xs6385, S6388, F6375, rfl, hS6376, hE6377, ho6381, fo6382, ho6383, fo6384, ho6391, fo6392, h6379, h6380, h6386, hl6387, h6389, h6390, ap6393, ap6394, ap6395, ap6396, ap6397, ap6398, ap6399, ap6400, ap6401, ap6402, ap6403, ap6404, hr⟩
 }
 }
 {
 replace hr := ite_neg hr hc5885
 with_reducible refine W.exit ?_
 with_reducible refine Ex.thn_ex ?_
 with_reducible refine Ex.thn_ex ?_
 with_reducible refine Ex.blk_here ?_
 refine Ex.thn_norm ?_
 with_reducible refine W.seq ?_
 refine W.regionD [0, 1, 2, 3, 4, 5, 6, 7, 8, 9, 10, 11, 12] [false, false, false, false, false, false, false, false, false, false, false, false, true] rfl rfl (by kernel_rfl) (by kernel_rfl) (by (conv => lhs; simp only [List.map_cons, List.map_nil, List.getD_cons_zero, List.getD_cons_succ]) <;> rfl) ?_
 refine WL.move .r rfl rfl rfl rfl ?_
 refine WL.move .r rfl rfl rfl rfl ?_
 refine WL.nilCheck .r rfl rfl rfl rfl ?_
 refine WL.fieldAddr .r rfl rfl rfl Try.underlying42 rfl info3 rfl rfl ?_
 obtain ⟨x6902, hx6902, hr⟩ := bnd_some hr
 obtain ⟨c6903, ecs6904, hrow6905, hwin6906, hb6907⟩ := OD.get h5862 hp56 hx6902
 obtain ⟨a6908, cap6909, a6910, cap6911, a6912, cap6913, a6914, cap6915, rfl⟩ := GPeer.ofB hb6907
 refine WL.load1 .r rfl rfl rfl Try.underlying3 rfl rfl hrow6905 ((win_get (m := 3) hwin6906 (show (3 : Nat) < 9 by decide)).trans rfl) ?_
 refine WL.fieldAddr .r rfl rfl rfl Try.underlying85 rfl info3 rfl rfl ?_
 refine WL.load1 .r rfl rfl rfl Try.underlying3 rfl rfl ho5859 rfl ?_
 refine WL.move .r rfl rfl rfl rfl ?_
 refine WL.min2 .r rfl rfl rfl rfl rfl ?_
 refine WL.max2 .r rfl rfl rfl rfl rfl ?_
 refine WL.nilCheck .r rfl rfl rfl rfl ?_
 refine WL.fieldAddr .r rfl rfl rfl Try.underlying42 rfl info3 rfl rfl ?_
 refine GL.store hS5851 .w (vc := [.int .i64 (if (if x5853 < x18.C then x5853 else x18.C) > x6902.Commit then (if x5853 < x18.C then x5853 else x18.C) else x6902.Commit)]) rfl rfl rfl info3 rfl rfl rfl rfl hrow6905 (OD.fnone h5862 (OD.bS h5862 hp56)) (win_fit2 hwin6906 (Nat.le_of_ble_eq_true rfl) rfl (Nat.le_of_ble_eq_true rfl)) (by have := (OD.id_lt h5862 (OD.bS h5862 hp56)).1; omega) (one1 rfl) rfl (fun H6916 hS6917 ho6918 hk6919 => ?_)
 have ho6920 := (hk6919 (n0 + 1) (fun hj => ap5869 (by rw [hj]; exact (OD.bS h5862 hp56)))).trans ho5857
 have ho6921 := (hk6919 n0 (fun hj => ap5870 (by rw [hj]; exact (OD.bS h5862 hp56)))).trans ho5859
 have ho6922 := (hk6919 p0 (fun hj => ap5871 (by rw [hj]; exact (OD.bS h5862 hp56)))).trans ho5867
 have h6923 := OW.keep h5865 (Nat.le_refl _) (fun i hi => hk6919 i (fun hj => ap5875 i hi (by rw [hj]; exact (OD.bS h5862 hp56))))
 have h6924 := OW.keep h5866 (Nat.le_refl _) (fun i hi => hk6919 i (fun hj => ap5879 i hi (by rw [hj]; exact (OD.bS h5862 hp56))))
 have h6925 := GPeer.put_Commit h5862 hp56 hx6902 hrow6905 hwin6906 (w := (if (if x5853 < x18.C then x5853 else x18.C) > x6902.Commit then (if x5853 < x18.C then x5853 else x18.C) else x6902.Commit)) ho6918 hk6919
 have hl6926 : x1.Peers.length = (setI xs5861 x18.To ({ Up := x6902.Up, Term := x6902.Term, Vote := x6902.Vote, Commit := (if (if x5853 < x18.C then x5853 else x18.C) > x6902.Commit then (if x5853 < x18.C then x5853 else x18.C) else x6902.Commit), Role := x6902.Role, Log := x6902.Log, Votes := x6902.Votes, Next := x6902.Next, Match := x6902.Match } : GPeer)).length := hl5863.trans (by rw [setI_length])
 have hx6927 : idx (setI xs5861 x18.To ({ Up := x6902.Up, Term := x6902.Term, Vote := x6902.Vote, Commit := (if (if x5853 < x18.C then x5853 else x18.C) > x6902.Commit then (if x5853 < x18.C then x5853 else x18.C) else x6902.Commit), Role := x6902.Role, Log := x6902.Log, Votes := x6902.Votes, Next := x6902.Next, Match := x6902.Match } : GPeer)) x18.To = some ({ Up := x6902.Up, Term := x6902.Term, Vote := x6902.Vote, Commit := (if (if x5853 < x18.C then x5853 else x18.C) > x6902.Commit then (if x5853 < x18.C then x5853 else x18.C) else x6902.Commit), Role := x6902.Role, Log := x6902.Log, Votes := x6902.Votes, Next := x6902.Next, Match := x6902.Match } : GPeer) := idx_setI_same hx6902
 refine WL.nil ?_
 refine Ex.thn_norm ?_
 with_reducible refine W.seq ?_
 with_reducible refine W.region ?_
 refine WL.move .nil rfl rfl rfl rfl ?_
 refine WL.fieldAddr .nil rfl rfl rfl Try.underlying85 rfl info3 rfl rfl ?_
 refine WL.load1 .nil rfl rfl rfl Try.underlying3 rfl rfl ho6921 rfl ?_
 obtain ⟨x6928, hx6928, hr⟩ := bnd_some hr
 refine GL.callIO g .nil (fun i => (F5850 i).isSome = true ∨ i = p0 ∨ S5864 i ∨ idOf (.slice a7 x1.Net.length cap8) = some i ∨ idOf (.slice a11 x1.Chosen.length cap12) = some i) rfl rfl rfl rfl rfl rfl Try.func95 rfl rfl (Nat.le_refl _) hS6917.lo (f_impl_Cluster_choose_k (x1 := ({ Peers := (setI xs5861 x18.To ({ Up := x6902.Up, Term := x6902.Term, Vote := x6902.Vote, Commit := (if (if x5853 < x18.C then x5853 else x18.C) > x6902.Commit then (if x5853 < x18.C then x5853 else x18.C) else x6902.Commit), Role := x6902.Role, Log := x6902.Log, Votes := x6902.Votes, Next := x6902.Next, Match := x6902.Match } : GPeer)), Net := x1.Net, Chosen := x1.Chosen, Conflict := x1.Conflict } : GCluster)) g (St.vis hS6917 (fun i hi => .inl hi)) (by rw [← hl6926]; exact vis_get ho6922 (.inr (.inl rfl))) fo5868 lo17 (OD.head hl6926 (OD.vis h6925 (fun i hi => (.inr (.inr (.inl hi)))))) (OW.vis h6923 (fun i hi => (.inr (.inr (.inr (.inl hi)))))) (OW.vis h6924 (fun i hi => (.inr (.inr (.inr (.inr (hi))))))) ap5871 ap5874 ap5875 ap5878 ap5879 ap5880 hx6928) (fun v n6929 H6930 H6931 hn6932 hp6933 hle6934 hnew6935 hk6936 hd6937 => ?_)
 obtain ⟨F6948, S6939, a6941, cap6942, a6944, cap6945, hX6949, hS6947, ho6950, rfl, h6938, hl6940, h6943, h6946, ap6951, ap6952, ap6953, ap6954, ap6955, ap6956⟩ := hp6933
 have hS6957 : St lo n6929 H6930 _ := ⟨hS6947.lo, fun i hi => (hnew6935 i (by omega)).trans (hS6947.hb i hi), hS6947.fh.trans hle6934⟩
 have ho6958 := (hk6936 _ (by have := lt5881; omega) (fun hs => by
      rcases hs with h | h | h | h | h
      · rw [fo5858] at h; cases h
      · omega
      · exact ap5869 h
      · exact ap5872 h
      · exact ap5876 h)).trans ho6920
 have ho6959 := (hk6936 _ (by have := lt5882; omega) (fun hs => by
      rcases hs with h | h | h | h | h
      · rw [fo5860] at h; cases h
      · omega
      · exact ap5870 h
      · exact ap5873 h
      · exact ap5877 h)).trans ho6921
 have fo6960 := (hX6949.eq _ (by have := lt5881; omega)).trans fo5858
 have fo6961 := (hX6949.eq _ (by have := lt5882; omega)).trans fo5860
 have fo6962 := (hX6949.eq _ (by have := lt5883; omega)).trans fo5868
 have hE6963 := (hE5852.up (n' := n5848) (by omega)).trans hX6949
 have ho6964 := hle6934 _ _ ho6950
 have h6965 := OD.le h6938 hle6934
 have hl6966 : x1.Peers.length = x6928.Peers.length := hl6926.trans hl6940
 rw [← hl6926] at h6965
 have h6968 := OW.le h6943 hle6934
 have h6970 := OW.le h6946 hle6934
 rw [← hl6926] at ho6964
 have ap6971 : ¬ S6939 (n0 + 1) := fun hj => (OD.after h6938 hd6937 hj).elim (fun h => by have := lt5881; omega) (fun hs => by
      rcases hs with h | h | h | h | h
      · rw [fo5858] at h; cases h
      · omega
      · exact ap5869 h
      · exact ap5872 h
      · exact ap5876 h)
 have ap6972 : ¬ S6939 n0 := fun hj => (OD.after h6938 hd6937 hj).elim (fun h => by have := lt5882; omega) (fun hs => by
      rcases hs with h | h | h | h | h
      · rw [fo5860] at h; cases h
      · omega
      · exact ap5870 h
      · exact ap5873 h
      · exact ap5877 h)
 have ap6973 : idOf (.slice a6941 x6928.Net.length cap6942) ≠ some (n0 + 1) := fun hj => (OW.after h6943 hd6937 hj).elim (fun h => by have := lt5881; omega) (fun hs => by
      rcases hs with h | h | h | h | h
      · rw [fo5858] at h; cases h
      · omega
      · exact ap5869 h
      · exact ap5872 h
      · exact ap5876 h)
 have ap6974 : idOf (.slice a6941 x6928.Net.length cap6942) ≠ some n0 := fun hj => (OW.after h6943 hd6937 hj).elim (fun h => by have := lt5882; omega) (fun hs => by
      rcases hs with h | h | h | h | h
      · rw [fo5860] at h; cases h
      · omega
      · exact ap5870 h
      · exact ap5873 h
      · exact ap5877 h)
 have ap6975 : idOf (.slice a6944 x6928.Chosen.length cap6945) ≠ some (n0 + 1) := fun hj => (OW.after h6946 hd6937 hj).elim (fun h => by have := lt5881; omega) (fun hs => by
      rcases hs with h | h | h | h | h
      · rw [fo5858] at h; cases h
      · omega
      · exact ap5869 h
      · exact ap5872 h
      · exact ap5876 h)
 have ap6976 : idOf (.slice a6944 x6928.Chosen.length cap6945) ≠ some n0 := fun hj => (OW.after h6946 hd6937 hj).elim (fun h => by have := lt5882; omega) (fun hs => by
      rcases hs with h | h | h | h | h
      · rw [fo5860] at h; cases h
      · omega
      · exact ap5870 h
      · exact ap5873 h
      · exact ap5877 h)
 have hlon6929 := hS6957.lo
 have lt6977 := hS6957.lt ho6958
 have lt6978 := hS6957.lt ho6959
 have lt6979 := hS6957.lt ho6964
 refine WL.nil ?_
 refine Ex.thn_norm ?_
 with_reducible refine W.seq ?_
 with_reducible refine W.region ?_
 refine WL.move .nil rfl rfl rfl rfl ?_
 refine WL.fieldAddr .nil rfl rfl rfl Try.underlying85 rfl info4 rfl rfl ?_
 refine GL.store hS6957 .nil (vc := [.bool true]) (c' := [.int .i64 4, .int .i64 x22.From, .int .i64 x22.To, .int .i64 x275.Term, .int .i64 x22.A, .int .i64 x22.B, .int .i64 x22.C, .bool true, .slice a23 x22.Log.length cap24]) rfl rfl rfl info4 rfl rfl rfl rfl ho6958 fo6960 (Nat.le_of_ble_eq_true rfl) (by omega) (one1 rfl) rfl (fun H6980 hS6981 ho6982 hk6983 => ?_)
 have ho6984 := (hk6983 _ (by omega)).trans ho6959
 have ho6985 := (hk6983 _ (by omega)).trans ho6964
 have h6986 := OD.keep h6965 (Nat.le_refl _) (fun i hi => hk6983 i (fun hj => ap6971 (hj ▸ hi)))
 have h6987 := OW.keep h6968 (Nat.le_refl _) (fun i hi => hk6983 i (fun hj => ap6973 (hj ▸ hi)))
 have h6988 := OW.keep h6970 (Nat.le_refl _) (fun i hi => hk6983 i (fun hj => ap6975 (hj ▸ hi)))
 refine WL.fieldAddr .nil rfl rfl rfl Try.underlying85 rfl info3 rfl rfl ?_
 refine GL.store hS6981 .nil (vc := [.int .i64 x5853]) (c' := [.int .i64 4, .int .i64 x22.From, .int .i64 x22.To, .int .i64 x275.Term, .int .i64 x5853, .int .i64 x22.B, .int .i64 x22.C, .bool true, .slice a23 x22.Log.length cap24]) rfl rfl rfl info3 rfl rfl rfl rfl ho6982 fo6960 (Nat.le_of_ble_eq_true rfl) (by omega) (one1 rfl) rfl (fun H6989 hS6990 ho6991 hk6992 => ?_)
 have ho6993 := (hk6992 _ (by omega)).trans ho6984
 have ho6994 := (hk6992 _ (by omega)).trans ho6985
 have h6995 := OD.keep h6986 (Nat.le_refl _) (fun i hi => hk6992 i (fun hj => ap6971 (hj ▸ hi)))
 have h6996 := OW.keep h6987 (Nat.le_refl _) (fun i hi => hk6992 i (fun hj => ap6973 (hj ▸ hi)))
 have h6997 := OW.keep h6988 (Nat.le_refl _) (fun i hi => hk6992 i (fun hj => ap6975 (hj ▸ hi)))
 refine WL.nil ?_
 refine Ex.thn_norm ?_
 with_reducible refine W.region ?_
 refine WL.move .nil rfl rfl rfl rfl ?_
 refine WL.loadN .nil (l' := [.int .i64 4, .int .i64 x22.From, .int .i64 x22.To, .int .i64 x275.Term, .int .i64 x5853, .int .i64 x22.B, .int .i64 x22.C, .bool true, .slice a23 x22.Log.length cap24]) rfl rfl rfl Try.underlying85 rfl info85 rfl ho6991 rfl rfl ?_
 obtain ⟨x6998, hx6998, hr⟩ := bnd_some hr
 refine GL.callIO g .nil (fun i => (F6948 i).isSome = true ∨ i = p0 ∨ S6939 i ∨ idOf (.slice a6941 x6928.Net.length cap6942) = some i ∨ idOf (.slice a6944 x6928.Chosen.length cap6945) = some i) rfl rfl rfl rfl rfl rfl Try.func55 rfl rfl (Nat.le_refl _) hS6990.lo (f_impl_Cluster_send_k (x1 := ({ Peers := x6928.Peers, Net := x6928.Net, Chosen := x6928.Chosen, Conflict := x6928.Conflict } : GCluster)) (x18 := ({ Kind := 4, From := x22.From, To := x22.To, Term := x275.Term, A := x5853, B := x22.B, C := x22.C, Ok := true, Log := x22.Log } : GMsg)) g (St.vis hS6990 (fun i hi => .inl hi)) (by rw [← hl6966]; exact vis_get ho6994 (.inr (.inl rfl))) fo6962 lo17 (OD.head hl6966 (OD.vis h6995 (fun i hi => (.inr (.inr (.inl hi)))))) (OW.vis h6996 (fun i hi => (.inr (.inr (.inr (.inl hi)))))) (OW.vis h6997 (fun i hi => (.inr (.inr (.inr (.inr (hi))))))) (h5856.mono hX6949.sub) ap6951 ap6952 ap6954 ap6953 ap6955 ap6956 hx6998) (fun v n6999 H7000 H7001 hn7002 hp7003 hle7004 hnew7005 hk7006 hd7007 => ?_)
 obtain ⟨F7018, S7009, a7011, cap7012, a7014, cap7015, hX7019, hS7017, ho7020, rfl, h7008, hl7010, h7013, h7016, ap7021, ap7022, ap7023, ap7024, ap7025, ap7026⟩ := hp7003
 have hS7027 : St lo n6999 H7000 _ := ⟨hS7017.lo, fun i hi => (hnew7005 i (by omega)).trans (hS7017.hb i hi), hS7017.fh.trans hle7004⟩
 have ho7028 := (hk7006 _ (by have := lt6977; omega) (fun hs => by
      rcases hs with h | h | h | h | h
      · rw [fo6960] at h; cases h
      · omega
      · exact ap6971 h
      · exact ap6973 h
      · exact ap6975 h)).trans ho6991
 have ho7029 := (hk7006 _ (by have := lt6978; omega) (fun hs => by
      rcases hs with h | h | h | h | h
      · rw [fo6961] at h; cases h
      · omega
      · exact ap6972 h
      · exact ap6974 h
      · exact ap6976 h)).trans ho6993
 have fo7030 := (hX7019.eq _ (by have := lt6977; omega)).trans fo6960
 have fo7031 := (hX7019.eq _ (by have := lt6978; omega)).trans fo6961
 have fo7032 := (hX7019.eq _ (by have := lt6979; omega)).trans fo6962
 have hE7033 := (hE6963.up (n' := n6929) (by omega)).trans hX7019
 have ho7034 := hle7004 _ _ ho7020
 have h7035 := OD.le h7008 hle7004
 have hl7036 : x1.Peers.length = x6998.Peers.length := hl6966.trans hl7010
 rw [← hl6966] at h7035
 have h7038 := OW.le h7013 hle7004
 have h7040 := OW.le h7016 hle7004
 rw [← hl6966] at ho7034
 have ap7041 : ¬ S7009 (n0 + 1) := fun hj => (OD.after h7008 hd7007 hj).elim (fun h => by have := lt6977; omega) (fun hs => by
      rcases hs with h | h | h | h | h
      · rw [fo6960] at h; cases h
      · omega
      · exact ap6971 h
      · exact ap6973 h
      · exact ap6975 h)
 have ap7042 : ¬ S7009 n0 := fun hj => (OD.after h7008 hd7007 hj).elim (fun h => by have := lt6978; omega) (fun hs => by
      rcases hs with h | h | h | h | h
      · rw [fo6961] at h; cases h
      · omega
      · exact ap6972 h
      · exact ap6974 h
      · exact ap6976 h)
 have ap7043 : idOf (.slice a7011 x6998.Net.length cap7012) ≠ some (n0 + 1) := fun hj => (OW.after h7013 hd7007 hj).elim (fun h => by have := lt6977; omega) (fun hs => by
      rcases hs with h | h | h | h | h
      · rw [fo6960] at h; cases h
      · omega
      · exact ap6971 h
      · exact ap6973 h
      · exact ap6975 h)
 have ap7044 : idOf (.slice a7011 x6998.Net.length cap7012) ≠ some n0 := fun hj => (OW.after h7013 hd7007 hj).elim (fun h => by have := lt6978; omega) (fun hs => by
      rcases hs with h | h | h | h | h
      · rw [fo6961] at h; cases h
      · omega
      · exact ap6972 h
      · exact ap6974 h
      · exact ap6976 h)
 have ap7045 : idOf (.slice a7014 x6998.Chosen.length cap7015) ≠ some (n0 + 1) := fun hj => (OW.after h7016 hd7007 hj).elim (fun h => by have := lt6977; omega) (fun hs => by
      rcases hs with h | h | h | h | h
      · rw [fo6960] at h; cases h
      · omega
      · exact ap6971 h
      · exact ap6973 h
      · exact ap6975 h)
 have ap7046 : idOf (.slice a7014 x6998.Chosen.length cap7015) ≠ some n0 := fun hj => (OW.after h7016 hd7007 hj).elim (fun h => by have := lt6978; omega) (fun hs => by
      rcases hs with h | h | h | h | h
      · rw [fo6961] at h; cases h
      · omega
      · exact ap6972 h
      · exact ap6974 h
      · exact ap6976 h)
 have hlon6999 := hS7027.lo
 have lt7047 := hS7027.lt ho7028
 have lt7048 := hS7027.lt ho7029
 have lt7049 := hS7027.lt ho7034
 refine WL.nil ?_
 obtain rfl := Option.some.inj hr
 exact ⟨.inl rfl, _, .nil, ⟨F7018, S7009, a7011, cap7012, a7014, cap7015, (hE7033.up (by omega)), hS7027, ho7034, rfl, h7035, hl7036, h7038, h7040, ap7021, ap7022, ap7023, ap7024, ap7025, ap7026⟩⟩
 }
 }
 }
 }
 }
 }
theorem f_impl_Cluster_arrive_k {Δ : Prims} (g : Env Try.prog Δ) {lo n0 : Nat} {H0 F0 : Heap} (hS : St lo n0 H0 F0) {p0 : Nat} {x1 : GCluster} {ez0 : Nat} {a2 : Option Addr} {cap3 : Nat} {S6 : Nat → Prop} {a7 : Option Addr} {cap8 : Nat} {a11 : Option Addr} {cap12 : Nat} {x18 : GMsg} {a19 : Option Addr} {cap20 : Nat} (ho15 : H0 p0 = some (.row ez0 [.slice a2 x1.Peers.length cap3, .slice a7 x1.Net.length cap8, .slice a11 x1.Chosen.length cap12, .bool x1.Conflict])) (fo16 : F0 p0 = none) (lo17 : lo ≤ p0) (h4 : OD lo n0 H0 F0 S6 [] (.slice a2 x1.Peers.length cap3) x1.Peers) (h9 : OW lo n0 H0 F0 (.slice a7 x1.Net.length cap8) x1.Net) (h13 : OW lo n0 H0 F0 (.slice a11 x1.Chosen.length cap12) x1.Chosen) (h21 : SR F0 (.slice a19 x18.Log.length cap20) x18.Log) (ap22 : ¬ S6 p0) (ap23 : idOf (.slice a7 x1.Net.length cap8) ≠ some p0) (ap24 : ∀ b, idOf (.slice a7 x1.Net.length cap8) = some b → ¬ S6 b) (ap25 : idOf (.slice a11 x1.Chosen.length cap12) ≠ some p0) (ap26 : ∀ b, idOf (.slice a11 x1.Chosen.length cap12) = some b → ¬ S6 b) (ap27 : ∀ b, idOf (.slice a11 x1.Chosen.length cap12) = some b → idOf (.slice a7 x1.Net.length cap8) ≠ some b) {res : (GCluster)} (hr : f_impl_Cluster_arrive x1 x18 = some res) :
    C Try.prog Δ lo 57 [.pointer (some ⟨p0, 0, none⟩), .agg [.int .i64 x18.Kind, .int .i64 x18.From, .int .i64 x18.To, .int .i64 x18.Term, .int .i64 x18.A, .int .i64 x18.B, .int .i64 x18.C, .bool x18.Ok, .slice a19 x18.Log.length cap20].toArray] n0 H0 (fun v n H => ∃ (F : Heap) (rS2 : Nat → Prop) (ra4 : Option Addr) (rcap5 : Nat) (ra7 : Option Addr) (rcap8 : Nat), Ext n0 F0 n F ∧ St lo n H F ∧ H p0 = some (.row ez0 [.slice a2 x1.Peers.length cap3, .slice ra4 res.Net.length rcap5, .slice ra7 res.Chosen.length rcap8, .bool res.Conflict]) ∧ v = .tuple #[] ∧ OD lo n H F rS2 [] (.slice a2 x1.Peers.length cap3) res.Peers ∧ x1.Peers.length = res.Peers.length ∧ OW lo n H F (.slice ra4 res.Net.length rcap5) res.Net ∧ OW lo n H F (.slice ra7 res.Chosen.length rcap8) res.Chosen ∧ ¬ rS2 p0 ∧ idOf (.slice ra4 res.Net.length rcap5) ≠ some p0 ∧ idOf (.slice ra7 res.Chosen.length rcap8) ≠ some p0 ∧ (∀ b, idOf (.slice ra4 res.Net.length rcap5) = some b → ¬ rS2 b) ∧ (∀ b, idOf (.slice ra7 res.Chosen.length rcap8) = some b → ¬ rS2 b) ∧ (∀ b, idOf (.slice ra7 res.Chosen.length rcap8) = some b → idOf (.slice ra4 res.Net.length rcap5) ≠ some b)) := by
 refine C.body Try.func57 rfl rfl ?_
 unfold f_impl_Cluster_arrive at hr
 have hS0 : St lo n0 H0 F0 := hS
 have hE0 := Ext.refl n0 F0
 have hlo0 := hS0.lo
 have lt0 := hS0.lt ho15
 with_reducible refine W.seq ?_
 with_reducible refine W.region ?_
 refine GL.box hS0 .nil (vc := [.int .i64 x18.Kind, .int .i64 x18.From, .int .i64 x18.To, .int .i64 x18.Term, .int .i64 x18.A, .int .i64 x18.B, .int .i64 x18.C, .bool x18.Ok, .slice a19 x18.Log.length cap20]) rfl rfl rfl rfl rfl (by repeat' (first | exact List.forall_mem_nil _ | refine List.forall_mem_cons.2 ⟨?_, ?_⟩ | rfl)) (fun H28 hS29 ho30 hk31 => ?_)
 have fo32 := hS0.fnone (Nat.le_refl _)
 have ho34 := (hk31 _ (by have := lt0; omega)).trans ho15
 have h35 := OD.keep (n' := (n0 + 1)) h4 (by omega) (fun i hi => hk31 i (OD.id_lt h4 hi).2)
 have h36 := OW.keep (n' := (n0 + 1)) h9 (by omega) (fun i hi => hk31 i (OW.id_lt h9 hi).2)
 have h37 := OW.keep (n' := (n0 + 1)) h13 (by omega) (fun i hi => hk31 i (OW.id_lt h13 hi).2)
 have hlon01 := hS29.lo
 have lt33 : n0 < (n0 + 1) := by omega
 refine WL.nil ?_
 refine Ex.thn_norm ?_
 with_reducible refine W.seq ?_
 refine W.regionD [0, 1, 2, 3, 4, 5, 6, 7] [false, false, false, false, false, false, false, false] rfl rfl (by kernel_rfl) (by kernel_rfl) (by (conv => lhs; simp only [List.map_cons, List.map_nil, List.getD_cons_zero, List.getD_cons_succ]) <;> rfl) ?_
 refine WL.move .r rfl rfl rfl rfl ?_
 refine WL.nilCheck .r rfl rfl rfl rfl ?_
 refine WL.fieldAddr .r rfl rfl rfl Try.underlying30 rfl info26 rfl rfl ?_
 refine WL.load1 .r rfl rfl rfl Try.underlying26 rfl rfl ho34 rfl ?_
 refine WL.fieldAddr .r rfl rfl rfl Try.underlying85 rfl info3 rfl rfl ?_
 refine WL.load1 .r rfl rfl rfl Try.underlying3 rfl rfl ho30 rfl ?_
 obtain ⟨x38, hx38, hr⟩ := bnd_some hr
 refine GL.indexD .r rfl rfl rfl Try.underlying26 info42 rfl rfl h35 rfl hx38 (fun b39 el40 hp41 => ?_)
 refine WL.assign .r rfl rfl rfl rfl ?_
 refine WL.nil ?_
 refine Ex.thn_norm ?_
 with_reducible refine W.seq ?_
 with_reducible refine W.seq ?_
 with_reducible refine W.region ?_
 refine WL.move .nil rfl rfl rfl rfl ?_
 refine WL.nilCheck .nil rfl rfl rfl rfl ?_
 refine WL.fieldAddr .nil rfl rfl rfl Try.underlying42 rfl info4 rfl rfl ?_
 obtain ⟨c42, ecs43, hrow44, hwin45, hb46⟩ := OD.get h35 hp41 hx38
 obtain ⟨a47, cap48, a49, cap50, a51, cap52, a53, cap54, rfl⟩ := GPeer.ofB hb46
 refine WL.load1 .nil rfl rfl rfl Try.underlying4 rfl rfl hrow44 ((win_get0 hwin45 (show (0 : Nat) < 9 by decide)).trans rfl) ?_
 refine WL.not .nil rfl rfl rfl rfl ?_
 refine WL.nil ?_
 refine Ex.thn_norm ?_
 refine W.cond rfl (fun hc56 => ?_) (fun hc56 => ?_)
 {
 replace hr := iteB_pos hr hc56
 with_reducible refine W.ret ?_
 with_reducible refine Ex.thn_ret ?_
 obtain rfl := Option.some.inj hr
 exact ⟨.inr rfl, _, .nil, ⟨F0, S6, a7, cap8, a11, cap12, (hE0.up (by omega)), hS29, ho34, rfl, h35, rfl, h36, h37, ap22, ap23, ap25, ap24, ap26, ap27⟩⟩
 }
 {
 replace hr := iteB_neg hr hc56
 with_reducible refine W.skip ?_
 refine Ex.thn_norm ?_
 with_reducible refine W.seq ?_
 with_reducible refine W.seq ?_
 refine W.regionD [0, 1, 2, 3, 4, 5, 6] [false, false, false, false, false, false, false] rfl rfl (by kernel_rfl) (by kernel_rfl) (by (conv => lhs; simp only [List.map_cons, List.map_nil, List.getD_cons_zero, List.getD_cons_succ]) <;> rfl) ?_
 refine WL.fieldAddr .r rfl rfl rfl Try.underlying85 rfl info3 rfl rfl ?_
 refine WL.load1 .r rfl rfl rfl Try.underlying3 rfl rfl ho30 rfl ?_
 refine WL.move .r rfl rfl rfl rfl ?_
 refine WL.nilCheck .r rfl rfl rfl rfl ?_
 refine WL.fieldAddr .r rfl rfl rfl Try.underlying42 rfl info3 rfl rfl ?_
 refine WL.load1 .r rfl rfl rfl Try.underlying3 rfl rfl hrow44 ((win_get (m := 1) hwin45 (show (1 : Nat) < 9 by decide)).trans rfl) ?_
 refine WL.bin .r rfl rfl rfl rfl rfl rfl ?_
 refine WL.nil ?_
 refine Ex.thn_norm ?_
 refine W.cut (fun fr n H => ∃ (xs262 : (List GPeer)) (S265 : Nat → Prop) (F : Heap), fr = [(0, .pointer (some ⟨p0, 0, none⟩)), (3, .pointer (some ⟨n0, 0, none⟩)), (4, .pointer (some ⟨b39, el40, none⟩))] ∧ St lo n H F ∧ Ext n0 F0 n F ∧ H n0 = some (.row 1 [.int .i64 x18.Kind, .int .i64 x18.From, .int .i64 x18.To, .int .i64 x18.Term, .int .i64 x18.A, .int .i64 x18.B, .int .i64 x18.C, .bool x18.Ok, .slice a19 x18.Log.length cap20]) ∧ F n0 = none ∧ H p0 = some (.row ez0 [.slice a2 x1.Peers.length cap3, .slice a7 x1.Net.length cap8, .slice a11 x1.Chosen.length cap12, .bool x1.Conflict]) ∧ F p0 = none ∧ SR F (.slice a19 x18.Log.length cap20) x18.Log ∧ OD lo n H F S265 [] (.slice a2 x1.Peers.length cap3) xs262 ∧ x1.Peers.length = xs262.length ∧ OW lo n H F (.slice a7 x1.Net.length cap8) x1.Net ∧ OW lo n H F (.slice a11 x1.Chosen.length cap12) x1.Chosen ∧ ¬ S265 n0 ∧ ¬ S265 p0 ∧ idOf (.slice a7 x1.Net.length cap8) ≠ some n0 ∧ idOf (.slice a7 x1.Net.length cap8) ≠ some p0 ∧ (∀ b, idOf (.slice a7 x1.Net.length cap8) = some b → ¬ S265 b) ∧ idOf (.slice a11 x1.Chosen.length cap12) ≠ some n0 ∧ idOf (.slice a11 x1.Chosen.length cap12) ≠ some p0 ∧ (∀ b, idOf (.slice a11 x1.Chosen.length cap12) = some b → ¬ S265 b) ∧ (∀ b, idOf (.slice a11 x1.Chosen.length cap12) = some b → idOf (.slice a7 x1.Net.length cap8) ≠ some b) ∧ f_impl_Cluster_arrive_J0 x18 x1 xs262 = some res) ?_ ?_
 {
 refine W.condD rfl (fun hc1207 => ?_) (fun hc1207 => ?_)
 {
 replace hr := ite_pos hr hc1207
 with_reducible refine W.region ?_
 refine WL.move .nil rfl rfl rfl rfl ?_
 refine WL.fieldAddr .nil rfl rfl rfl Try.underlying85 rfl info3 rfl rfl ?_
 refine WL.load1 .nil rfl rfl rfl Try.underlying3 rfl rfl ho30 rfl ?_
 refine GL.callIn (args := [.pointer (some ⟨b39, el40, none⟩), .int .i64 x18.Term]) .nil lo rfl rfl rfl rfl rfl rfl Try.func85 rfl rfl (Nat.le_refl _) hS29.lo ?_
 refine C.body Try.func85 rfl rfl ?_
 with_reducible refine W.seq ?_
 with_reducible refine W.seq ?_
 with_reducible refine W.region ?_
 refine WL.move .nil rfl rfl rfl rfl ?_
 refine WL.move .nil rfl rfl rfl rfl ?_
 refine WL.nilCheck .nil rfl rfl rfl rfl ?_
 refine WL.fieldAddr .nil rfl rfl rfl Try.underlying42 rfl info3 rfl rfl ?_
 refine WL.load1 .nil rfl rfl rfl Try.underlying3 rfl rfl hrow44 ((win_get (m := 1) hwin45 (show (1 : Nat) < 9 by decide)).trans rfl) ?_
 refine WL.bin .nil rfl rfl rfl rfl rfl rfl ?_
 refine WL.nil ?_
 refine Ex.thn_norm ?_
 refine W.cut (fun fr n H => ∃ (xs1252 : (List GPeer)) (S1255 : Nat → Prop) (F : Heap), fr = [(0, .pointer (some ⟨b39, el40, none⟩))] ∧ St lo n H F ∧ Ext n0 F0 n F ∧ H n0 = some (.row 1 [.int .i64 x18.Kind, .int .i64 x18.From, .int .i64 x18.To, .int .i64 x18.Term, .int .i64 x18.A, .int .i64 x18.B, .int .i64 x18.C, .bool x18.Ok, .slice a19 x18.Log.length cap20]) ∧ F n0 = none ∧ H p0 = some (.row ez0 [.slice a2 x1.Peers.length cap3, .slice a7 x1.Net.length cap8, .slice a11 x1.Chosen.length cap12, .bool x1.Conflict]) ∧ F p0 = none ∧ SR F (.slice a19 x18.Log.length cap20) x18.Log ∧ OD lo n H F S1255 [] (.slice a2 x1.Peers.length cap3) xs1252 ∧ x1.Peers.length = xs1252.length ∧ OW lo n H F (.slice a7 x1.Net.length cap8) x1.Net ∧ OW lo n H F (.slice a11 x1.Chosen.length cap12) x1.Chosen ∧ ¬ S1255 n0 ∧ ¬ S1255 p0 ∧ idOf (.slice a7 x1.Net.length cap8) ≠ some n0 ∧ idOf (.slice a7 x1.Net.length cap8) ≠ some p0 ∧ (∀ b, idOf (.slice a7 x1.Net.length cap8) = some b → ¬ S1255 b) ∧ idOf (.slice a11 x1.Chosen.length cap12) ≠ some n0 ∧ idOf (.slice a11 x1.Chosen.length cap12) ≠ some p0 ∧ (∀ b, idOf (.slice a11 x1.Chosen.length cap12) = some b → ¬ S1255 b) ∧ (∀ b, idOf (.slice a11 x1.Chosen.length cap12) = some b → idOf (.slice a7 x1.Net.length cap8) ≠ some b) ∧ f_impl_Cluster_arrive_J5 x18 x1 xs1252 = some res) ?_ ?_
 {
 refine W.condD rfl (fun hc1368 => ?_) (fun hc1368 => ?_)
 {
 replace hr := ite_pos hr hc1368
 with_reducible refine W.region ?_
 refine WL.move .nil rfl rfl rfl rfl ?_
 refine WL.move .nil rfl rfl rfl rfl ?_
 refine WL.move .nil rfl rfl rfl rfl ?_
 refine WL.nilCheck .nil rfl rfl rfl rfl ?_
 refine WL.fieldAddr .nil rfl rfl rfl Try.underlying42 rfl info3 rfl rfl ?_
 refine GL.store hS29 .nil (vc := [.int .i64 x18.Term]) rfl rfl rfl info3 rfl rfl rfl rfl hrow44 (OD.fnone h35 (OD.bS h35 hp41)) (win_fit2 hwin45 (Nat.le_of_ble_eq_true rfl) rfl (Nat.le_of_ble_eq_true rfl)) (by have := (OD.id_lt h35 (OD.bS h35 hp41)).1; omega) (one1 rfl) rfl (fun H1369 hS1370 ho1371 hk1372 => ?_)
 have ho1373 := (hk1372 p0 (fun hj => ap22 (by rw [hj]; exact (OD.bS h35 hp41)))).trans ho34
 have ho1374 := (hk1372 n0 (fun hj => (Ap.alloc (OD.hb h4)) (by rw [hj]; exact (OD.bS h35 hp41)))).trans ho30
 have h1375 := OW.keep h36 (Nat.le_refl _) (fun i hi => hk1372 i (fun hj => ap24 i hi (by rw [hj]; exact (OD.bS h35 hp41))))
 have h1376 := OW.keep h37 (Nat.le_refl _) (fun i hi => hk1372 i (fun hj => ap26 i hi (by rw [hj]; exact (OD.bS h35 hp41))))
 have h1377 := GPeer.put_Term h35 hp41 hx38 hrow44 hwin45 (w := x18.Term) ho1371 hk1372
 have hl1378 : x1.Peers.length = (setI x1.Peers x18.To ({ Up := x38.Up, Term := x18.Term, Vote := x38.Vote, Commit := x38.Commit, Role := x38.Role, Log := x38.Log, Votes := x38.Votes, Next := x38.Next, Match := x38.Match } : GPeer)).length := (setI_length _ _ _).symm
 have hx1379 : idx (setI x1.Peers x18.To ({ Up := x38.Up, Term := x18.Term, Vote := x38.Vote, Commit := x38.Commit, Role := x38.Role, Log := x38.Log, Votes := x38.Votes, Next := x38.Next, Match := x38.Match } : GPeer)) x18.To = some ({ Up := x38.Up, Term := x18.Term, Vote := x38.Vote, Commit := x38.Commit, Role := x38.Role, Log := x38.Log, Votes := x38.Votes, Next := x38.Next, Match := x38.Match } : GPeer) := idx_setI_same hx38
 refine WL.nilCheck .nil rfl rfl rfl rfl ?_
 refine WL.fieldAddr .nil rfl rfl rfl Try.underlying42 rfl info3 rfl rfl ?_
 obtain ⟨c1380, ecs1381, hrow1382, hwin1383, hb1384⟩ := OD.get h1377 hp41 hx1379
 obtain ⟨a1385, cap1386, a1387, cap1388, a1389, cap1390, a1391, cap1392, rfl⟩ := GPeer.ofB hb1384
 refine GL.store hS1370 .nil (vc := [.int .i64 0]) rfl rfl rfl info3 rfl rfl rfl rfl hrow1382 (OD.fnone h1377 (OD.bS h1377 hp41)) (win_fit2 hwin1383 (Nat.le_of_ble_eq_true rfl) rfl (Nat.le_of_ble_eq_true rfl)) (by have := (OD.id_lt h1377 (OD.bS h1377 hp41)).1; omega) (one1 rfl) rfl (fun H1393 hS1394 ho1395 hk1396 => ?_)
 have ho1397 := (hk1396 p0 (fun hj => ap22 (by rw [hj]; exact (OD.bS h1377 hp41)))).trans ho1373
 have ho1398 := (hk1396 n0 (fun hj => (Ap.alloc (OD.hb h4)) (by rw [hj]; exact (OD.bS h1377 hp41)))).trans ho1374
 have h1399 := OW.keep h1375 (Nat.le_refl _) (fun i hi => hk1396 i (fun hj => ap24 i hi (by rw [hj]; exact (OD.bS h1377 hp41))))
 have h1400 := OW.keep h1376 (Nat.le_refl _) (fun i hi => hk1396 i (fun hj => ap26 i hi (by rw [hj]; exact (OD.bS h1377 hp41))))
 have h1401 := GPeer.put_Vote h1377 hp41 hx1379 hrow1382 hwin1383 (w := 0) ho1395 hk1396
 rw [setI_setI] at h1401
 have hl1402 : x1.Peers.length = (setI x1.Peers x18.To ({ Up := x38.Up, Term := x18.Term, Vote := 0, Commit := x38.Commit, Role := x38.Role, Log := x38.Log, Votes := x38.Votes, Next := x38.Next, Match := x38.Match } : GPeer)).length := hl1378.trans (by rw [setI_length, setI_length])
 have hx1403 : idx (setI x1.Peers x18.To ({ Up := x38.Up, Term := x18.Term, Vote := 0, Commit := x38.Commit, Role := x38.Role, Log := x38.Log, Votes := x38.Votes, Next := x38.Next, Match := x38.Match } : GPeer)) x18.To = some ({ Up := x38.Up, Term := x18.Term, Vote := 0, Commit := x38.Commit, Role := x38.Role, Log := x38.Log, Votes := x38.Votes, Next := x38.Next, Match := x38.Match } : GPeer) := idx_setI_same hx38
 refine WL.nil ?_
 refine Ex.thn_norm ?_
 exact ⟨[(0, .pointer (some ⟨b39, el40, none⟩))], (Fr.le_cons rfl Fr.le_nil), (setI x1.Peers x18.To ({ Up := x38.Up, Term := x18.Term, Vote := 0, Commit := x38.Commit, Role := x38.Role, Log := x38.Log, Votes := x38.Votes, Next := x38.Next, Match := x38.Match } : GPeer)), S6, F0, rfl, hS1394, (hE0.up (by omega)), ho1398, fo32, ho1397, fo16, h21, h1401, hl1402, h1399, h1400, (Ap.alloc (OD.hb h4)), ap22, (Ap.alloc (OW.hb h9)), ap23, ap24, (Ap.alloc (OW.hb h13)), ap25, ap26, ap27, hr⟩
 }
 {
 replace hr := ite_neg hr hc1368
 with_reducible refine W.skip ?_
 refine Ex.thn_norm ?_
 exact ⟨[(0, .pointer (some ⟨b39, el40, none⟩))], (Fr.le_cons rfl Fr.le_nil), x1.Peers, S6, F0, rfl, hS29, (hE0.up (by omega)), ho30, fo32, ho34, fo16, h21, h35, rfl, h36, h37, (Ap.alloc (OD.hb h4)), ap22, (Ap.alloc (OW.hb h9)), ap23, ap24, (Ap.alloc (OW.hb h13)), ap25, ap26, ap27, hr⟩
 }
 }
 {
 intro _ n1244 H1245 hI
 obtain ⟨xs1252, S1255, F1246, rfl, hS1247, hE1248, ho1250, fo1251, ho1258, fo1259, h1249, h1253, hl1254, h1256, h1257, ap1260, ap1261, ap1262, ap1263, ap1264, ap1265, ap1266, ap1267, ap1268, hr⟩ := hI
 have lt1269 := hS1247.lt ho1250
 have lt1270 := hS1247.lt ho1258
 have hlen1244 := hE1248.le
 have hlon1244 := hS1247.lo
 unfold f_impl_Cluster_arrive_J5 at hr
 with_reducible refine W.region ?_
 refine WL.move .nil rfl rfl rfl rfl ?_
 refine GL.callIn (args := [.pointer (some ⟨b39, el40, none⟩)]) .nil lo rfl rfl rfl rfl rfl rfl Try.func92 rfl rfl (Nat.le_refl _) hS1247.lo ?_
 refine C.body Try.func92 rfl rfl ?_
 with_reducible refine W.region ?_
 refine WL.move .nil rfl rfl rfl rfl ?_
 refine WL.move .nil rfl rfl rfl rfl ?_
 refine WL.move .nil rfl rfl rfl rfl ?_
 refine WL.move .nil rfl rfl rfl rfl ?_
 refine WL.nilCheck .nil rfl rfl rfl rfl ?_
 refine WL.fieldAddr .nil rfl rfl rfl Try.underlying42 rfl info3 rfl rfl ?_
 obtain ⟨x1271, hx1271, hr⟩ := bnd_some hr
 obtain ⟨c1272, ecs1273, hrow1274, hwin1275, hb1276⟩ := OD.get h1253 hp41 hx1271
 obtain ⟨a1277, cap1278, a1279, cap1280, a1281, cap1282, a1283, cap1284, rfl⟩ := GPeer.ofB hb1276
 refine GL.store hS1247 .nil (vc := [.int .i64 0]) rfl rfl rfl info3 rfl rfl rfl rfl hrow1274 (OD.fnone h1253 (OD.bS h1253 hp41)) (win_fit2 hwin1275 (Nat.le_of_ble_eq_true rfl) rfl (Nat.le_of_ble_eq_true rfl)) (by have := (OD.id_lt h1253 (OD.bS h1253 hp41)).1; omega) (one1 rfl) rfl (fun H1285 hS1286 ho1287 hk1288 => ?_)
 have ho1289 := (hk1288 n0 (fun hj => ap1260 (by rw [hj]; exact (OD.bS h1253 hp41)))).trans ho1250
 have ho1290 := (hk1288 p0 (fun hj => ap1261 (by rw [hj]; exact (OD.bS h1253 hp41)))).trans ho1258
 have h1291 := OW.keep h1256 (Nat.le_refl _) (fun i hi => hk1288 i (fun hj => ap1264 i hi (by rw [hj]; exact (OD.bS h1253 hp41))))
 have h1292 := OW.keep h1257 (Nat.le_refl _) (fun i hi => hk1288 i (fun hj => ap1267 i hi (by rw [hj]; exact (OD.bS h1253 hp41))))
 have h1293 := GPeer.put_Role h1253 hp41 hx1271 hrow1274 hwin1275 (w := 0) ho1287 hk1288
 have hl1294 : x1.Peers.length = (setI xs1252 x18.To ({ Up := x1271.Up, Term := x1271.Term, Vote := x1271.Vote, Commit := x1271.Commit, Role := 0, Log := x1271.Log, Votes := x1271.Votes, Next := x1271.Next, Match := x1271.Match } : GPeer)).length := hl1254.trans (by rw [setI_length])
 have hx1295 : idx (setI xs1252 x18.To ({ Up := x1271.Up, Term := x1271.Term, Vote := x1271.Vote, Commit := x1271.Commit, Role := 0, Log := x1271.Log, Votes := x1271.Votes, Next := x1271.Next, Match := x1271.Match } : GPeer)) x18.To = some ({ Up := x1271.Up, Term := x1271.Term, Vote := x1271.Vote, Commit := x1271.Commit, Role := 0, Log := x1271.Log, Votes := x1271.Votes, Next := x1271.Next, Match := x1271.Match } : GPeer) := idx_setI_same hx1271
 refine WL.nilCheck .nil rfl rfl rfl rfl ?_
 refine WL.fieldAddr .nil rfl rfl rfl Try.underlying42 rfl info40 rfl rfl ?_
 obtain ⟨c1296, ecs1297, hrow1298, hwin1299, hb1300⟩ := OD.get h1293 hp41 hx1295
 obtain ⟨a1301, cap1302, a1303, cap1304, a1305, cap1306, a1307, cap1308, rfl⟩ := GPeer.ofB hb1300
 refine GL.store hS1286 .nil (vc := [.slice none 0 0]) rfl rfl rfl info40 rfl rfl rfl rfl hrow1298 (OD.fnone h1293 (OD.bS h1293 hp41)) (win_fit2 hwin1299 (Nat.le_of_ble_eq_true rfl) rfl (Nat.le_of_ble_eq_true rfl)) (by have := (OD.id_lt h1293 (OD.bS h1293 hp41)).1; omega) (one1 rfl) rfl (fun H1309 hS1310 ho1311 hk1312 => ?_)
 have ho1313 := (hk1312 n0 (fun hj => ap1260 (by rw [hj]; exact (OD.bS h1293 hp41)))).trans ho1289
 have ho1314 := (hk1312 p0 (fun hj => ap1261 (by rw [hj]; exact (OD.bS h1293 hp41)))).trans ho1290
 have h1315 := OW.keep h1291 (Nat.le_refl _) (fun i hi => hk1312 i (fun hj => ap1264 i hi (by rw [hj]; exact (OD.bS h1293 hp41))))
 have h1316 := OW.keep h1292 (Nat.le_refl _) (fun i hi => hk1312 i (fun hj => ap1267 i hi (by rw [hj]; exact (OD.bS h1293 hp41))))
 have h1317 := GPeer.nil_Votes h1293 hp41 hx1295 hrow1298 hwin1299 z00 z00 ho1311 hk1312
 rw [setI_setI] at h1317
 have hl1318 : x1.Peers.length = (setI xs1252 x18.To ({ Up := x1271.Up, Term := x1271.Term, Vote := x1271.Vote, Commit := x1271.Commit, Role := 0, Log := x1271.Log, Votes := [], Next := x1271.Next, Match := x1271.Match } : GPeer)).length := hl1294.trans (by rw [setI_length, setI_length])
 have hx1319 : idx (setI xs1252 x18.To ({ Up := x1271.Up, Term := x1271.Term, Vote := x1271.Vote, Commit := x1271.Commit, Role := 0, Log := x1271.Log, Votes := [], Next := x1271.Next, Match := x1271.Match } : GPeer)) x18.To = some ({ Up := x1271.Up, Term := x1271.Term, Vote := x1271.Vote, Commit := x1271.Commit, Role := 0, Log := x1271.Log, Votes := [], Next := x1271.Next, Match := x1271.Match } : GPeer) := idx_setI_same hx1271
 refine WL.nilCheck .nil rfl rfl rfl rfl ?_
 refine WL.fieldAddr .nil rfl rfl rfl Try.underlying42 rfl info31 rfl rfl ?_
 obtain ⟨c1320, ecs1321, hrow1322, hwin1323, hb1324⟩ := OD.get h1317 hp41 hx1319
 obtain ⟨a1325, cap1326, a1327, cap1328, a1329, cap1330, a1331, cap1332, rfl⟩ := GPeer.ofB hb1324
 refine GL.store hS1310 .nil (vc := [.slice none 0 0]) rfl rfl rfl info31 rfl rfl rfl rfl hrow1322 (OD.fnone h1317 (OD.bS h1317 hp41)) (win_fit2 hwin1323 (Nat.le_of_ble_eq_true rfl) rfl (Nat.le_of_ble_eq_true rfl)) (by have := (OD.id_lt h1317 (OD.bS h1317 hp41)).1; omega) (one1 rfl) rfl (fun H1333 hS1334 ho1335 hk1336 => ?_)
 have ho1337 := (hk1336 n0 (fun hj => ap1260 (by rw [hj]; exact (OD.bS h1317 hp41)))).trans ho1313
 have ho1338 := (hk1336 p0 (fun hj => ap1261 (by rw [hj]; exact (OD.bS h1317 hp41)))).trans ho1314
 have h1339 := OW.keep h1315 (Nat.le_refl _) (fun i hi => hk1336 i (fun hj => ap1264 i hi (by rw [hj]; exact (OD.bS h1317 hp41))))
 have h1340 := OW.keep h1316 (Nat.le_refl _) (fun i hi => hk1336 i (fun hj => ap1267 i hi (by rw [hj]; exact (OD.bS h1317 hp41))))
 have h1341 := GPeer.nil_Next h1317 hp41 hx1319 hrow1322 hwin1323 z00 z00 ho1335 hk1336
 rw [setI_setI] at h1341
 have hl1342 : x1.Peers.length = (setI xs1252 x18.To ({ Up := x1271.Up, Term := x1271.Term, Vote := x1271.Vote, Commit := x1271.Commit, Role := 0, Log := x1271.Log, Votes := [], Next := [], Match := x1271.Match } : GPeer)).length := hl1318.trans (by rw [setI_length, setI_length])
 have hx1343 : idx (setI xs1252 x18.To ({ Up := x1271.Up, Term := x1271.Term, Vote := x1271.Vote, Commit := x1271.Commit, Role := 0, Log := x1271.Log, Votes := [], Next := [], Match := x1271.Match } : GPeer)) x18.To = some ({ Up := x1271.Up, Term := x1271.Term, Vote := x1271.Vote, Commit := x1271.Commit, Role := 0, Log := x1271.Log, Votes := [], Next := [], Match := x1271.Match } : GPeer) := idx_setI_same hx1271
 refine WL.nilCheck .nil rfl rfl rfl rfl ?_
 refine WL.fieldAddr .nil rfl rfl rfl Try.underlying42 rfl info31 rfl rfl ?_
 obtain ⟨c1344, ecs1345, hrow1346, hwin1347, hb1348⟩ := OD.get h1341 hp41 hx1343
 obtain ⟨a1349, cap1350, a1351, cap1352, a1353, cap1354, a1355, cap1356, rfl⟩ := GPeer.ofB hb1348
 refine GL.store hS1334 .nil (vc := [.slice none 0 0]) rfl rfl rfl info31 rfl rfl rfl rfl hrow1346 (OD.fnone h1341 (OD.bS h1341 hp41)) (win_fit2 hwin1347 (Nat.le_of_ble_eq_true rfl) rfl (Nat.le_of_ble_eq_true rfl)) (by have := (OD.id_lt h1341 (OD.bS h1341 hp41)).1; omega) (one1 rfl) rfl (fun H1357 hS1358 ho1359 hk1360 => ?_)
 have ho1361 := (hk1360 n0 (fun hj => ap1260 (by rw [hj]; exact (OD.bS h1341 hp41)))).trans ho1337
 have ho1362 := (hk1360 p0 (fun hj => ap1261 (by rw [hj]; exact (OD.bS h1341 hp41)))).trans ho1338
 have h1363 := OW.keep h1339 (Nat.le_refl _) (fun i hi => hk1360 i (fun hj => ap1264 i hi (by rw [hj]; exact (OD.bS h1341 hp41))))
 have h1364 := OW.keep h1340 (Nat.le_refl _) (fun i hi => hk1360 i (fun hj => ap1267 i hi (by rw [hj]; exact (OD.bS h1341 hp41))))
 have h1365 := GPeer.nil_Match h1341 hp41 hx1343 hrow1346 hwin1347 z00 z00 ho1359 hk1360
 rw [setI_setI] at h1365
 have hl1366 : x1.Peers.length = (setI xs1252 x18.To ({ Up := x1271.Up, Term := x1271.Term, Vote := x1271.Vote, Commit := x1271.Commit, Role := 0, Log := x1271.Log, Votes := [], Next := [], Match := [] } : GPeer)).length := hl1342.trans (by rw [setI_length, setI_length])
 have hx1367 : idx (setI xs1252 x18.To ({ Up := x1271.Up, Term := x1271.Term, Vote := x1271.Vote, Commit := x1271.Commit, Role := 0, Log := x1271.Log, Votes := [], Next := [], Match := [] } : GPeer)) x18.To = some ({ Up := x1271.Up, Term := x1271.Term, Vote := x1271.Vote, Commit := x1271.Commit, Role := 0, Log := x1271.Log, Votes := [], Next := [], Match := [] } : GPeer) := idx_setI_same hx1271
 refine WL.nil ?_
 refine ⟨.inl rfl, _, .nil, ?_⟩
 refine WL.nil ?_
 refine ⟨.inl rfl, _, .nil, ?_⟩
 refine WL.nil ?_
 refine Ex.thn_norm ?_
 exact ⟨[(0, .pointer (some ⟨p0, 0, none⟩)), (3, .pointer (some ⟨n0, 0, none⟩)), (4, .pointer (some ⟨b39, el40, none⟩))], (Fr.le_cons rfl (Fr.le_cons rfl (Fr.le_cons rfl Fr.le_nil))), (setI xs1252 x18.To ({ Up := x1271.Up, Term := x1271.Term, Vote := x1271.Vote, Commit := x1271.Commit, Role := 0, Log := x1271.Log, Votes := [], Next := [], Match := [] } : GPeer)), S1255, F1246, rfl, hS1358, hE1248, ho1361, fo1251, ho1362, fo1259, h1249, h1365, hl1366, h1363, h1364, ap1260, ap1261, ap1262, ap1263, ap1264, ap1265, ap1266, ap1267, ap1268, hr⟩
 }
 }
 {
 replace hr := ite_neg hr hc1207
 with_reducible refine W.skip ?_
 refine Ex.thn_norm ?_
 exact ⟨[(0, .pointer (some ⟨p0, 0, none⟩)), (3, .pointer (some ⟨n0, 0, none⟩)), (4, .pointer (some ⟨b39, el40, none⟩))], (Fr.le_cons rfl (Fr.le_cons rfl (Fr.le_cons rfl Fr.le_nil))), x1.Peers, S6, F0, rfl, hS29, (hE0.up (by omega)), ho30, fo32, ho34, fo16, h21, h35, rfl, h36, h37, (Ap.alloc (OD.hb h4)), ap22, (Ap.alloc (OW.hb h9)), ap23, ap24, (Ap.alloc (OW.hb h13)), ap25, ap26, ap27, hr⟩
 }
 }
 {
 intro _ n254 H255 hI
 obtain ⟨xs262, S265, F256, rfl, hS257, hE258, ho260, fo261, ho268, fo269, h259, h263, hl264, h266, h267, ap270, ap271, ap272, ap273, ap274, ap275, ap276, ap277, ap278, hr⟩ := hI
 have lt279 := hS257.lt ho260
 have lt280 := hS257.lt ho268
 have hlen254 := hE258.le
 have hlon254 := hS257.lo
 unfold f_impl_Cluster_arrive_J0 at hr
 with_reducible refine W.seq ?_
 with_reducible refine W.region ?_
 refine WL.fieldAddr .nil rfl rfl rfl Try.underlying85 rfl info3 rfl rfl ?_
 refine WL.load1 .nil rfl rfl rfl Try.underlying3 rfl rfl ho260 rfl ?_
 refine WL.fieldAddr .nil rfl rfl rfl Try.underlying85 rfl info3 rfl rfl ?_
 refine WL.load1 .nil rfl rfl rfl Try.underlying3 rfl rfl ho260 rfl ?_
 refine WL.buildL .nil (cells := [.int .i64 0, .int .i64 x18.To, .int .i64 x18.From, .int .i64 0, .int .i64 0, .int .i64 0, .int .i64 0, .bool false, .slice none 0 0]) rfl rfl rfl Try.underlying85 info85 rfl rfl rfl (by simp only [List.mapM_cons, List.mapM_nil, info3, info3, info3, info3, info3, info3, info3, info4, info28]; rfl) rfl (by first | rfl | ((conv => lhs; simp [splice, fillL, cells_int, cells_bool, cells_string, cells_str, cells_slice, cells_ptr, cells_map, cells_func, cells_nilFunc, cells_nilIface, cells_iface, cells_agg, cells_u8]) <;> rfl)) ?_
 refine GL.alloc hS257 .nil (zc := [.int .i64 0, .int .i64 0, .int .i64 0, .int .i64 0, .int .i64 0, .int .i64 0, .int .i64 0, .bool false, .slice none 0 0]) rfl rfl rfl info85 rfl rfl rfl (fun H281 hS282 ho283 hk284 => ?_)
 have fo285 := hS257.fnone (Nat.le_refl _)
 have ho287 := (hk284 _ (by have := lt279; omega)).trans ho260
 have ho288 := (hk284 _ (by have := lt280; omega)).trans ho268
 have h289 := OD.keep (n' := (n254 + 1)) h263 (by omega) (fun i hi => hk284 i (OD.id_lt h263 hi).2)
 have h290 := OW.keep (n' := (n254 + 1)) h266 (by omega) (fun i hi => hk284 i (OW.id_lt h266 hi).2)
 have h291 := OW.keep (n' := (n254 + 1)) h267 (by omega) (fun i hi => hk284 i (OW.id_lt h267 hi).2)
 have hlon2541 := hS282.lo
 have lt286 : n254 < (n254 + 1) := by omega
 refine GL.store hS282 .nil (vc := [.int .i64 0, .int .i64 x18.To, .int .i64 x18.From, .int .i64 0, .int .i64 0, .int .i64 0, .int .i64 0, .bool false, .slice none 0 0]) (c' := [.int .i64 0, .int .i64 x18.To, .int .i64 x18.From, .int .i64 0, .int .i64 0, .int .i64 0, .int .i64 0, .bool false, .slice none 0 0]) rfl rfl rfl info85 rfl rfl rfl rfl ho283 fo285 (Nat.le_of_ble_eq_true rfl) (by omega) (by repeat' (first | exact List.forall_mem_nil _ | refine List.forall_mem_cons.2 ⟨?_, ?_⟩ | rfl)) rfl (fun H292 hS293 ho294 hk295 => ?_)
 have ho296 := (hk295 _ (by omega)).trans ho287
 have ho297 := (hk295 _ (by omega)).trans ho288
 have h298 := OD.keep h289 (Nat.le_refl _) (fun i hi => hk295 i (fun hj => (Ap.alloc (OD.hb h263)) (hj ▸ hi)))
 have h299 := OW.keep h290 (Nat.le_refl _) (fun i hi => hk295 i (fun hj => (Ap.alloc (OW.hb h266)) (hj ▸ hi)))
 have h300 := OW.keep h291 (Nat.le_refl _) (fun i hi => hk295 i (fun hj => (Ap.alloc (OW.hb h267)) (hj ▸ hi)))
 refine WL.nil ?_
 refine Ex.thn_norm ?_
 with_reducible refine W.seq ?_
 with_reducible refine W.region ?_
 refine WL.fieldAddr .nil rfl rfl rfl Try.underlying85 rfl info3 rfl rfl ?_
 refine WL.load1 .nil rfl rfl rfl Try.underlying3 rfl rfl ho296 rfl ?_
 refine WL.nil ?_
 refine Ex.thn_norm ?_
 with_reducible refine W.block ?_
 with_reducible refine W.seq ?_
 with_reducible refine W.region ?_
 refine WL.bin .nil rfl rfl rfl rfl rfl rfl ?_
 refine WL.assign .nil rfl rfl rfl rfl ?_
 refine WL.nil ?_
 refine Ex.thn_norm ?_
 refine W.condD rfl (fun hc301 => ?_) (fun hc301 => ?_)
 {
 replace hr := ite_pos hr hc301
 with_reducible refine W.seq ?_
 with_reducible refine W.region ?_
 refine WL.move .nil rfl rfl rfl rfl ?_
 obtain ⟨x302, hx302, hr⟩ := bnd_some hr
 obtain ⟨c303, ecs304, hrow305, hwin306, hb307⟩ := OD.get h298 hp41 hx302
 obtain ⟨a308, cap309, a310, cap311, a312, cap313, a314, cap315, rfl⟩ := GPeer.ofB hb307
 obtain ⟨S316, hs317, hs318, hs319, h320, h321⟩ := GPeer.open_Log h298 hp41 hx302 hrow305 hwin306 (List.forall_mem_nil _)
 obtain ⟨x323, hx323, hr⟩ := bnd_some hr
 refine GL.callP g.good .nil rfl rfl rfl rfl rfl rfl Try.func86 rfl rfl hS293.lo (f_impl_Peer_last_elem0_k  g hS293 hrow305 hwin306 h320 hx323) (fun v n324 H325 hn326 hk327 hp328 => ?_)
 obtain ⟨hS329, rfl⟩ := hp328
 have ho330 := (hk327 _ (by have := lt279; omega)).trans ho296
 have ho331 := (hk327 _ (by have := lt280; omega)).trans ho297
 have ho332 := (hk327 _ (by have := lt286; omega)).trans ho294
 have h333 := OD.keep (n' := n324) h321 (by omega) (fun i hi => hk327 i (OD.id_lt h321 hi).2)
 have h334 := OW.keep (n' := n324) h299 (by omega) (fun i hi => hk327 i (OW.id_lt h299 hi).2)
 have h335 := OW.keep (n' := n324) h300 (by omega) (fun i hi => hk327 i (OW.id_lt h300 hi).2)
 have h336 := OW.keep (n' := n324) h320 (by omega) (fun i hi => hk327 i (OW.id_lt h320 hi).2)
 have hS337 : St lo n324 H325 F256 := ⟨by have := hS293.lo; omega, hS329.hb, hS329.fh⟩
 have hlon324 := hS337.lo
 refine WL.move .nil rfl rfl rfl rfl ?_
 refine WL.extract .nil rfl rfl rfl rfl rfl ?_
 refine WL.extract .nil rfl rfl rfl rfl rfl ?_
 refine WL.assign .nil rfl rfl rfl rfl ?_
 refine WL.assign .nil rfl rfl rfl rfl ?_
 refine WL.nil ?_
 refine Ex.thn_norm ?_
 with_reducible refine W.seq ?_
 obtain ⟨c339, ecs340, hrow341, hwin342, hb343⟩ := OD.get h333 hp41 hx302
 obtain ⟨a344, cap345, a346, cap347, a348, cap349, a350, cap351, rfl⟩ := GPeer.ofB hb343
 have hq352 := OD.hole h333 hp41 hx302 hrow341 hwin342
 obtain ⟨rfl, rfl⟩ := hdr_eq (a := a344) (c := cap345) hq352
 have rw354 : RW lo n324 H325 F256 b39 (.row (Rp.sz GPeer) c339) := ⟨(OD.id_lt h333 (OD.bS h333 hp41)).1, (OD.id_lt h333 (OD.bS h333 hp41)).2, OD.fnone h333 (OD.bS h333 hp41), hrow341⟩
 have ap355 : ¬ n0 = b39 := fun h => (Ap.sub0 hs317 ap270) (h ▸ (OD.bS h333 hp41))
 have ap356 : ¬ p0 = b39 := fun h => (Ap.sub0 hs317 ap271) (h ▸ (OD.bS h333 hp41))
 have ap357 : ¬ n254 = b39 := fun h => (Ap.sub0 hs317 (Ap.alloc (OD.hb h263))) (h ▸ (OD.bS h333 hp41))
 have ap358 : ∀ b, b = b39 → idOf (.slice a7 x1.Net.length cap8) ≠ some b := fun b h => (Ap.sub hs317 (Ap.sym ap274)) b (h ▸ (OD.bS h333 hp41))
 have ap359 : ∀ b, b = b39 → idOf (.slice a11 x1.Chosen.length cap12) ≠ some b := fun b h => (Ap.sub hs317 (Ap.sym ap277)) b (h ▸ (OD.bS h333 hp41))
 have ap360 : ∀ b, b = b39 → idOf (.slice a308 x302.Log.length cap309) ≠ some b := fun b h => (Ap.sym hs319) b (h ▸ (OD.bS h333 hp41))
 refine W.regionI (fun H => H b39 = some (.row (Rp.sz GPeer) c339)) [0, 1, 2, 3, 4, 5, 6, 7] [(false, true, false), (false, true, false), (false, true, false), (false, true, false), (false, false, false), (true, false, false), (false, false, false), (true, false, true)] false rfl (by kernel_rfl) (by kernel_rfl) (by (conv => lhs; simp only [List.map_cons, List.map_nil, List.getD_cons_zero, List.getD_cons_succ]) <;> rfl) ?_
 refine WLI.late (v := .pointer (some ⟨b39, el40, none⟩)) (fun h => by cases h) rfl rfl (fun H2 hI2 => .move (.inl rfl) rfl) ?_
 refine WLI.late (v := .pointer (some ⟨b39, el40, none⟩)) (fun h => by cases h) rfl rfl (fun H2 hI2 => .nilCheck rfl rfl) ?_
 refine WLI.late (v := .pointer (some ⟨b39, el40 + 1, none⟩)) (fun h => by cases h) rfl rfl (fun H2 hI2 => Step.fieldAddr' rfl Try.underlying42 rfl info3 rfl rfl rfl) ?_
 refine WLI.late (v := .int .i64 x302.Term) (fun h => by cases h) rfl rfl (fun H2 hI2 => Step.load1' rfl Try.underlying3 rfl rfl (hI2.elim (fun e => by rw [e]; exact rw354.2.2.2) (fun h => h)) ((win_get (m := 1) hwin342 (show (1 : Nat) < 9 by decide)).trans rfl)) ?_
 refine WLI.op (fun h => by cases h) ?_
 refine WL.fieldAddr .r rfl rfl rfl Try.underlying85 rfl info3 rfl rfl ?_
 with_reducible refine WL.nil ⟨rfl, ?_⟩
 refine WLI.op (fun h => by cases h) ?_
 refine GL.store hS337 .w (vc := [.int .i64 2]) (c' := [.int .i64 2, .int .i64 x18.To, .int .i64 x18.From, .int .i64 0, .int .i64 0, .int .i64 0, .int .i64 0, .bool false, .slice none 0 0]) rfl rfl rfl info3 rfl rfl rfl rfl ho332 fo285 (Nat.le_of_ble_eq_true rfl) (by omega) (one1 rfl) rfl (fun H361 hS362 ho363 hk364 => ?_)
 have ho365 := (hk364 _ (by omega)).trans ho330
 have ho366 := (hk364 _ (by omega)).trans ho331
 have h367 := OD.keep h333 (Nat.le_refl _) (fun i hi => hk364 i (fun hj => (Ap.sub0 hs317 (Ap.alloc (OD.hb h263))) (hj ▸ hi)))
 have h368 := OW.keep h334 (Nat.le_refl _) (fun i hi => hk364 i (fun hj => (Ap.alloc (OW.hb h266)) (hj ▸ hi)))
 have h369 := OW.keep h335 (Nat.le_refl _) (fun i hi => hk364 i (fun hj => (Ap.alloc (OW.hb h267)) (hj ▸ hi)))
 have h370 := OW.keep h336 (Nat.le_refl _) (fun i hi => hk364 i (fun hj => (Ap.sub0 hs318 (Ap.alloc (OD.hb h263))) (hj ▸ hi)))
 have h371 := RW.keep rw354 (Nat.le_refl _) (fun i hi => hk364 i (fun hj => ap357 (hj ▸ hi)))
 with_reducible refine WL.nil ⟨rfl, ?_⟩
 refine WLI.op (fun h => by cases h) ?_
 refine WL.fieldAddr .r rfl rfl rfl Try.underlying85 rfl info3 rfl rfl ?_
 with_reducible refine WL.nil ⟨rfl, ?_⟩
 refine WLI.op (fun _ => h371.2.2.2) ?_
 refine GL.store hS362 .w (vc := [.int .i64 x302.Term]) (c' := [.int .i64 2, .int .i64 x18.To, .int .i64 x18.From, .int .i64 x302.Term, .int .i64 0, .int .i64 0, .int .i64 0, .bool false, .slice none 0 0]) rfl rfl rfl info3 rfl rfl rfl rfl ho363 fo285 (Nat.le_of_ble_eq_true rfl) (by omega) (one1 rfl) rfl (fun H372 hS373 ho374 hk375 => ?_)
 have ho376 := (hk375 _ (by omega)).trans ho365
 have ho377 := (hk375 _ (by omega)).trans ho366
 have h378 := OD.keep h367 (Nat.le_refl _) (fun i hi => hk375 i (fun hj => (Ap.sub0 hs317 (Ap.alloc (OD.hb h263))) (hj ▸ hi)))
 have h379 := OW.keep h368 (Nat.le_refl _) (fun i hi => hk375 i (fun hj => (Ap.alloc (OW.hb h266)) (hj ▸ hi)))
 have h380 := OW.keep h369 (Nat.le_refl _) (fun i hi => hk375 i (fun hj => (Ap.alloc (OW.hb h267)) (hj ▸ hi)))
 have h381 := OW.keep h370 (Nat.le_refl _) (fun i hi => hk375 i (fun hj => (Ap.sub0 hs318 (Ap.alloc (OD.hb h263))) (hj ▸ hi)))
 have h382 := RW.keep h371 (Nat.le_refl _) (fun i hi => hk375 i (fun hj => ap357 (hj ▸ hi)))
 with_reducible refine WL.nil ⟨rfl, ?_⟩
 refine WLI.nil (fun h => by cases h) ?_
 refine Ex.thn_norm ?_
 with_reducible refine W.seq ?_
 with_reducible refine W.seq ?_
 refine W.cut (fun fr n H => ∃ (x434 : Bool) (S441 : Nat → Prop) (F : Heap), fr = [(0, .pointer (some ⟨p0, 0, none⟩)), (3, .pointer (some ⟨n0, 0, none⟩)), (4, .pointer (some ⟨b39, el40, none⟩)), (5, .pointer (some ⟨n254, 0, none⟩)), (92, .bool x434)] ∧ St lo n H F ∧ Ext n0 F0 n F ∧ H n0 = some (.row 1 [.int .i64 x18.Kind, .int .i64 x18.From, .int .i64 x18.To, .int .i64 x18.Term, .int .i64 x18.A, .int .i64 x18.B, .int .i64 x18.C, .bool x18.Ok, .slice a19 x18.Log.length cap20]) ∧ F n0 = none ∧ H n254 = some (.row 1 [.int .i64 2, .int .i64 x18.To, .int .i64 x18.From, .int .i64 x302.Term, .int .i64 0, .int .i64 0, .int .i64 0, .bool false, .slice none 0 0]) ∧ F n254 = none ∧ H p0 = some (.row ez0 [.slice a2 x1.Peers.length cap3, .slice a7 x1.Net.length cap8, .slice a11 x1.Chosen.length cap12, .bool x1.Conflict]) ∧ F p0 = none ∧ SR F (.slice a19 x18.Log.length cap20) x18.Log ∧ OD lo n H F S441 [] (.slice a2 x1.Peers.length cap3) xs262 ∧ OW lo n H F (.slice a7 x1.Net.length cap8) x1.Net ∧ OW lo n H F (.slice a11 x1.Chosen.length cap12) x1.Chosen ∧ ¬ S441 n0 ∧ ¬ S441 n254 ∧ ¬ S441 p0 ∧ idOf (.slice a7 x1.Net.length cap8) ≠ some n0 ∧ idOf (.slice a7 x1.Net.length cap8) ≠ some n254 ∧ idOf (.slice a7 x1.Net.length cap8) ≠ some p0 ∧ (∀ b, idOf (.slice a7 x1.Net.length cap8) = some b → ¬ S441 b) ∧ idOf (.slice a11 x1.Chosen.length cap12) ≠ some n0 ∧ idOf (.slice a11 x1.Chosen.length cap12) ≠ some n254 ∧ idOf (.slice a11 x1.Chosen.length cap12) ≠ some p0 ∧ (∀ b, idOf (.slice a11 x1.Chosen.length cap12) = some b → ¬ S441 b) ∧ (∀ b, idOf (.slice a11 x1.Chosen.length cap12) = some b → idOf (.slice a7 x1.Net.length cap8) ≠ some b) ∧ f_impl_Cluster_arrive_J1 x18 x1 x302 xs262 x434 = some res) ?_ ?_
 {
 refine W.regionD [0, 1, 2, 3, 4, 5, 6, 7, 8, 9, 10, 11, 12, 13, 14, 15, 16, 17, 18, 19, 20, 21, 22, 23, 24, 25, 26, 27, 28, 29, 30, 31, 32, 33, 34, 35, 36, 37, 38, 39, 40, 41] [false, false, false, false, false, false, false, false, false, false, false, false, false, false, false, false, false, false, false, false, false, false, false, false, false, false, false, false, false, false, false, false, false, false, false, false, false, false, false, false, false, false] rfl rfl (by kernel_rfl) (by kernel_rfl) (by (conv => lhs; simp only [List.map_cons, List.map_nil, List.getD_cons_zero, List.getD_cons_succ]) <;> rfl) ?_
 refine WL.fieldAddr .r rfl rfl rfl Try.underlying85 rfl info3 rfl rfl ?_
 refine WL.load1 .r rfl rfl rfl Try.underlying3 rfl rfl ho376 rfl ?_
 refine WL.move .r rfl rfl rfl rfl ?_
 refine WL.nilCheck .r rfl rfl rfl rfl ?_
 refine WL.fieldAddr .r rfl rfl rfl Try.underlying42 rfl info3 rfl rfl ?_
 obtain ⟨c606, ecs607, hrow608, hwin609, hb610⟩ := OD.get h378 hp41 hx302
 obtain ⟨a611, cap612, a613, cap614, a615, cap616, a617, cap618, rfl⟩ := GPeer.ofB hb610
 have hq619 := OD.hole h378 hp41 hx302 hrow608 hwin609
 obtain ⟨rfl, rfl⟩ := hdr_eq (a := a611) (c := cap612) hq619
 refine WL.load1 .r rfl rfl rfl Try.underlying3 rfl rfl hrow608 ((win_get (m := 1) hwin609 (show (1 : Nat) < 9 by decide)).trans rfl) ?_
 refine WL.bin .r rfl rfl rfl rfl rfl rfl ?_
 refine WL.move .r rfl rfl rfl rfl ?_
 refine WL.guardD rfl rfl rfl (fun hg620 => ?_) (fun hg620 => ?_)
 {
 replace hr := ite_pos hr hg620
 refine WL.move .r rfl rfl rfl rfl ?_
 refine WL.nilCheck .r rfl rfl rfl rfl ?_
 refine WL.fieldAddr .r rfl rfl rfl Try.underlying42 rfl info3 rfl rfl ?_
 refine WL.load1 .r rfl rfl rfl Try.underlying3 rfl rfl hrow608 ((win_get (m := 2) hwin609 (show (2 : Nat) < 9 by decide)).trans rfl) ?_
 refine WL.bin .r rfl rfl rfl rfl rfl rfl ?_
 refine WL.move .r rfl rfl rfl rfl ?_
 refine WL.guardD rfl rfl rfl (fun hg621 => ?_) (fun hg621 => ?_)
 {
 replace hr := ite_pos hr hg621
 refine WL.skip .r rfl rfl ?_
 refine WL.skip .r rfl rfl ?_
 refine WL.skip .r rfl rfl ?_
 refine WL.skip .r rfl rfl ?_
 refine WL.skip .r rfl rfl ?_
 refine WL.skip .r rfl rfl ?_
 refine WL.skip .r rfl rfl ?_
 refine WL.skip .r rfl rfl ?_
 refine WL.pick .r rfl rfl rfl rfl rfl ?_
 refine WL.pick .r rfl rfl rfl rfl rfl ?_
 refine WL.move .r rfl rfl rfl rfl ?_
 refine WL.fieldAddr .r rfl rfl rfl Try.underlying85 rfl info3 rfl rfl ?_
 refine WL.load1 .r rfl rfl rfl Try.underlying3 rfl rfl ho376 rfl ?_
 refine WL.move .r rfl rfl rfl rfl ?_
 refine WL.bin .r rfl rfl rfl rfl rfl rfl ?_
 refine WL.move .r rfl rfl rfl rfl ?_
 refine WL.guardD rfl rfl rfl (fun hg622 => ?_) (fun hg622 => ?_)
 {
 replace hr := ite_pos hr hg622
 refine WL.skip .r rfl rfl ?_
 refine WL.skip .r rfl rfl ?_
 refine WL.skip .r rfl rfl ?_
 refine WL.skip .r rfl rfl ?_
 refine WL.skip .r rfl rfl ?_
 refine WL.skip .r rfl rfl ?_
 refine WL.skip .r rfl rfl ?_
 refine WL.skip .r rfl rfl ?_
 refine WL.skip .r rfl rfl ?_
 refine WL.skip .r rfl rfl ?_
 refine WL.pick .r rfl rfl rfl rfl rfl ?_
 refine WL.pick .r rfl rfl rfl rfl rfl ?_
 refine WL.nil ?_
 refine Ex.thn_norm ?_
 obtain ⟨S623, hs624, h625⟩ := GPeer.close0_Log h378 hx302 h381
 exact ⟨[(0, .pointer (some ⟨p0, 0, none⟩)), (3, .pointer (some ⟨n0, 0, none⟩)), (4, .pointer (some ⟨b39, el40, none⟩)), (5, .pointer (some ⟨n254, 0, none⟩)), (92, .bool true)], (Fr.le_cons rfl (Fr.le_cons rfl (Fr.le_cons rfl (Fr.le_cons rfl (Fr.le_cons rfl Fr.le_nil))))), true, S623, F256, rfl, hS373, (hE258.up (by omega)), ho376, fo261, ho374, fo285, ho377, fo269, h259, h625, h379, h380, (Ap.or0 hs624 (Ap.sub0 hs317 ap270) (Ap.sub0 hs318 ap270)), (Ap.or0 hs624 (Ap.sub0 hs317 (Ap.alloc (OD.hb h263))) (Ap.sub0 hs318 (Ap.alloc (OD.hb h263)))), (Ap.or0 hs624 (Ap.sub0 hs317 ap271) (Ap.sub0 hs318 ap271)), ap272, (Ap.alloc (OW.hb h266)), ap273, (Ap.sym (Ap.or hs624 (Ap.sub hs317 (Ap.sym ap274)) (Ap.sub hs318 (Ap.sym ap274)))), ap275, (Ap.alloc (OW.hb h267)), ap276, (Ap.sym (Ap.or hs624 (Ap.sub hs317 (Ap.sym ap277)) (Ap.sub hs318 (Ap.sym ap277)))), ap278, hr⟩
 }
 {
 replace hr := ite_neg hr hg622
 refine WL.fieldAddr .r rfl rfl rfl Try.underlying85 rfl info3 rfl rfl ?_
 refine WL.load1 .r rfl rfl rfl Try.underlying3 rfl rfl ho376 rfl ?_
 refine WL.move .r rfl rfl rfl rfl ?_
 refine WL.bin .r rfl rfl rfl rfl rfl rfl ?_
 refine WL.move .r rfl rfl rfl rfl ?_
 refine WL.guardD rfl rfl rfl (fun hg626 => ?_) (fun hg626 => ?_)
 {
 replace hr := ite_pos hr hg626
 refine WL.fieldAddr .r rfl rfl rfl Try.underlying85 rfl info3 rfl rfl ?_
 refine WL.load1 .r rfl rfl rfl Try.underlying3 rfl rfl ho376 rfl ?_
 refine WL.move .r rfl rfl rfl rfl ?_
 refine WL.bin .r rfl rfl rfl rfl rfl rfl ?_
 refine WL.pick .r rfl rfl rfl rfl rfl ?_
 refine WL.pick .r rfl rfl rfl rfl rfl ?_
 refine WL.pick .r rfl rfl rfl rfl rfl ?_
 refine WL.nil ?_
 refine Ex.thn_norm ?_
 obtain ⟨S627, hs628, h629⟩ := GPeer.close0_Log h378 hx302 h381
 exact ⟨[(0, .pointer (some ⟨p0, 0, none⟩)), (3, .pointer (some ⟨n0, 0, none⟩)), (4, .pointer (some ⟨b39, el40, none⟩)), (5, .pointer (some ⟨n254, 0, none⟩)), (92, .bool (decide (x323.1 ≤ x18.A)))], (Fr.le_cons rfl (Fr.le_cons rfl (Fr.le_cons rfl (Fr.le_cons rfl (Fr.le_cons rfl Fr.le_nil))))), (decide (x323.1 ≤ x18.A)), S627, F256, rfl, hS373, (hE258.up (by omega)), ho376, fo261, ho374, fo285, ho377, fo269, h259, h629, h379, h380, (Ap.or0 hs628 (Ap.sub0 hs317 ap270) (Ap.sub0 hs318 ap270)), (Ap.or0 hs628 (Ap.sub0 hs317 (Ap.alloc (OD.hb h263))) (Ap.sub0 hs318 (Ap.alloc (OD.hb h263)))), (Ap.or0 hs628 (Ap.sub0 hs317 ap271) (Ap.sub0 hs318 ap271)), ap272, (Ap.alloc (OW.hb h266)), ap273, (Ap.sym (Ap.or hs628 (Ap.sub hs317 (Ap.sym ap274)) (Ap.sub hs318 (Ap.sym ap274)))), ap275, (Ap.alloc (OW.hb h267)), ap276, (Ap.sym (Ap.or hs628 (Ap.sub hs317 (Ap.sym ap277)) (Ap.sub hs318 (Ap.sym ap277)))), ap278, hr⟩
 }
 {
 replace hr := ite_neg hr hg626
 refine WL.skip .r rfl rfl ?_
 refine WL.skip .r rfl rfl ?_
 refine WL.skip .r rfl rfl ?_
 refine WL.skip .r rfl rfl ?_
 refine WL.pick .r rfl rfl rfl rfl rfl ?_
 refine WL.pick .r rfl rfl rfl rfl rfl ?_
 refine WL.pick .r rfl rfl rfl rfl rfl ?_
 refine WL.nil ?_
 refine Ex.thn_norm ?_
 obtain ⟨S630, hs631, h632⟩ := GPeer.close0_Log h378 hx302 h381
 exact ⟨[(0, .pointer (some ⟨p0, 0, none⟩)), (3, .pointer (some ⟨n0, 0, none⟩)), (4, .pointer (some ⟨b39, el40, none⟩)), (5, .pointer (some ⟨n254, 0, none⟩)), (92, .bool false)], (Fr.le_cons rfl (Fr.le_cons rfl (Fr.le_cons rfl (Fr.le_cons rfl (Fr.le_cons rfl Fr.le_nil))))), false, S630, F256, rfl, hS373, (hE258.up (by omega)), ho376, fo261, ho374, fo285, ho377, fo269, h259, h632, h379, h380, (Ap.or0 hs631 (Ap.sub0 hs317 ap270) (Ap.sub0 hs318 ap270)), (Ap.or0 hs631 (Ap.sub0 hs317 (Ap.alloc (OD.hb h263))) (Ap.sub0 hs318 (Ap.alloc (OD.hb h263)))), (Ap.or0 hs631 (Ap.sub0 hs317 ap271) (Ap.sub0 hs318 ap271)), ap272, (Ap.alloc (OW.hb h266)), ap273, (Ap.sym (Ap.or hs631 (Ap.sub hs317 (Ap.sym ap274)) (Ap.sub hs318 (Ap.sym ap274)))), ap275, (Ap.alloc (OW.hb h267)), ap276, (Ap.sym (Ap.or hs631 (Ap.sub hs317 (Ap.sym ap277)) (Ap.sub hs318 (Ap.sym ap277)))), ap278, hr⟩
 }
 }
 }
 {
 replace hr := ite_neg hr hg621
 refine WL.move .r rfl rfl rfl rfl ?_
 refine WL.nilCheck .r rfl rfl rfl rfl ?_
 refine WL.fieldAddr .r rfl rfl rfl Try.underlying42 rfl info3 rfl rfl ?_
 refine WL.load1 .r rfl rfl rfl Try.underlying3 rfl rfl hrow608 ((win_get (m := 2) hwin609 (show (2 : Nat) < 9 by decide)).trans rfl) ?_
 refine WL.fieldAddr .r rfl rfl rfl Try.underlying85 rfl info3 rfl rfl ?_
 refine WL.load1 .r rfl rfl rfl Try.underlying3 rfl rfl ho376 rfl ?_
 obtain ⟨hc633, hr⟩ := chk_some hr
 refine WL.addI .r rfl rfl rfl rfl rfl hc633.1 hc633.2 ?_
 refine WL.bin .r rfl rfl rfl rfl rfl rfl ?_
 refine WL.pick .r rfl rfl rfl rfl rfl ?_
 refine WL.pick .r rfl rfl rfl rfl rfl ?_
 refine WL.move .r rfl rfl rfl rfl ?_
 refine WL.guardD rfl rfl rfl (fun hg634 => ?_) (fun hg634 => ?_)
 {
 replace hr := ite_pos hr hg634
 refine WL.fieldAddr .r rfl rfl rfl Try.underlying85 rfl info3 rfl rfl ?_
 refine WL.load1 .r rfl rfl rfl Try.underlying3 rfl rfl ho376 rfl ?_
 refine WL.move .r rfl rfl rfl rfl ?_
 refine WL.bin .r rfl rfl rfl rfl rfl rfl ?_
 refine WL.move .r rfl rfl rfl rfl ?_
 refine WL.guardD rfl rfl rfl (fun hg635 => ?_) (fun hg635 => ?_)
 {
 replace hr := ite_pos hr hg635
 refine WL.skip .r rfl rfl ?_
 refine WL.skip .r rfl rfl ?_
 refine WL.skip .r rfl rfl ?_
 refine WL.skip .r rfl rfl ?_
 refine WL.skip .r rfl rfl ?_
 refine WL.skip .r rfl rfl ?_
 refine WL.skip .r rfl rfl ?_
 refine WL.skip .r rfl rfl ?_
 refine WL.skip .r rfl rfl ?_
 refine WL.skip .r rfl rfl ?_
 refine WL.pick .r rfl rfl rfl rfl rfl ?_
 refine WL.pick .r rfl rfl rfl rfl rfl ?_
 refine WL.nil ?_
 refine Ex.thn_norm ?_
 obtain ⟨S636, hs637, h638⟩ := GPeer.close0_Log h378 hx302 h381
 exact ⟨[(0, .pointer (some ⟨p0, 0, none⟩)), (3, .pointer (some ⟨n0, 0, none⟩)), (4, .pointer (some ⟨b39, el40, none⟩)), (5, .pointer (some ⟨n254, 0, none⟩)), (92, .bool true)], (Fr.le_cons rfl (Fr.le_cons rfl (Fr.le_cons rfl (Fr.le_cons rfl (Fr.le_cons rfl Fr.le_nil))))), true, S636, F256, rfl, hS373, (hE258.up (by omega)), ho376, fo261, ho374, fo285, ho377, fo269, h259, h638, h379, h380, (Ap.or0 hs637 (Ap.sub0 hs317 ap270) (Ap.sub0 hs318 ap270)), (Ap.or0 hs637 (Ap.sub0 hs317 (Ap.alloc (OD.hb h263))) (Ap.sub0 hs318 (Ap.alloc (OD.hb h263)))), (Ap.or0 hs637 (Ap.sub0 hs317 ap271) (Ap.sub0 hs318 ap271)), ap272, (Ap.alloc (OW.hb h266)), ap273, (Ap.sym (Ap.or hs637 (Ap.sub hs317 (Ap.sym ap274)) (Ap.sub hs318 (Ap.sym ap274)))), ap275, (Ap.alloc (OW.hb h267)), ap276, (Ap.sym (Ap.or hs637 (Ap.sub hs317 (Ap.sym ap277)) (Ap.sub hs318 (Ap.sym ap277)))), ap278, hr⟩
 }
 {
 replace hr := ite_neg hr hg635
 refine WL.fieldAddr .r rfl rfl rfl Try.underlying85 rfl info3 rfl rfl ?_
 refine WL.load1 .r rfl rfl rfl Try.underlying3 rfl rfl ho376 rfl ?_
 refine WL.move .r rfl rfl rfl rfl ?_
 refine WL.bin .r rfl rfl rfl rfl rfl rfl ?_
 refine WL.move .r rfl rfl rfl rfl ?_
 refine WL.guardD rfl rfl rfl (fun hg639 => ?_) (fun hg639 => ?_)
 {
 replace hr := ite_pos hr hg639
 refine WL.fieldAddr .r rfl rfl rfl Try.underlying85 rfl info3 rfl rfl ?_
 refine WL.load1 .r rfl rfl rfl Try.underlying3 rfl rfl ho376 rfl ?_
 refine WL.move .r rfl rfl rfl rfl ?_
 refine WL.bin .r rfl rfl rfl rfl rfl rfl ?_
 refine WL.pick .r rfl rfl rfl rfl rfl ?_
 refine WL.pick .r rfl rfl rfl rfl rfl ?_
 refine WL.pick .r rfl rfl rfl rfl rfl ?_
 refine WL.nil ?_
 refine Ex.thn_norm ?_
 obtain ⟨S640, hs641, h642⟩ := GPeer.close0_Log h378 hx302 h381
 exact ⟨[(0, .pointer (some ⟨p0, 0, none⟩)), (3, .pointer (some ⟨n0, 0, none⟩)), (4, .pointer (some ⟨b39, el40, none⟩)), (5, .pointer (some ⟨n254, 0, none⟩)), (92, .bool (decide (x323.1 ≤ x18.A)))], (Fr.le_cons rfl (Fr.le_cons rfl (Fr.le_cons rfl (Fr.le_cons rfl (Fr.le_cons rfl Fr.le_nil))))), (decide (x323.1 ≤ x18.A)), S640, F256, rfl, hS373, (hE258.up (by omega)), ho376, fo261, ho374, fo285, ho377, fo269, h259, h642, h379, h380, (Ap.or0 hs641 (Ap.sub0 hs317 ap270) (Ap.sub0 hs318 ap270)), (Ap.or0 hs641 (Ap.sub0 hs317 (Ap.alloc (OD.hb h263))) (Ap.sub0 hs318 (Ap.alloc (OD.hb h263)))), (Ap.or0 hs641 (Ap.sub0 hs317 ap271) (Ap.sub0 hs318 ap271)), ap272, (Ap.alloc (OW.hb h266)), ap273, (Ap.sym (Ap.or hs641 (Ap.sub hs317 (Ap.sym ap274)) (Ap.sub hs318 (Ap.sym ap274)))), ap275, (Ap.alloc (OW.hb h267)), ap276, (Ap.sym (Ap.or hs641 (Ap.sub hs317 (Ap.sym ap277)) (Ap.sub hs318 (Ap.sym ap277)))), ap278, hr⟩
 }
 {
 replace hr := ite_neg hr hg639
 refine WL.skip .r rfl rfl ?_
 refine WL.skip .r rfl rfl ?_
 refine WL.skip .r rfl rfl ?_
 refine WL.skip .r rfl rfl ?_
 refine WL.pick .r rfl rfl rfl rfl rfl ?_
 refine WL.pick .r rfl rfl rfl rfl rfl ?_
 refine WL.pick .r rfl rfl rfl rfl rfl ?_
 refine WL.nil ?_
 refine Ex.thn_norm ?_
 obtain ⟨S643, hs644, h645⟩ := GPeer.close0_Log h378 hx302 h381
 exact ⟨[(0, .pointer (some ⟨p0, 0, none⟩)), (3, .pointer (some ⟨n0, 0, none⟩)), (4, .pointer (some ⟨b39, el40, none⟩)), (5, .pointer (some ⟨n254, 0, none⟩)), (92, .bool false)], (Fr.le_cons rfl (Fr.le_cons rfl (Fr.le_cons rfl (Fr.le_cons rfl (Fr.le_cons rfl Fr.le_nil))))), false, S643, F256, rfl, hS373, (hE258.up (by omega)), ho376, fo261, ho374, fo285, ho377, fo269, h259, h645, h379, h380, (Ap.or0 hs644 (Ap.sub0 hs317 ap270) (Ap.sub0 hs318 ap270)), (Ap.or0 hs644 (Ap.sub0 hs317 (Ap.alloc (OD.hb h263))) (Ap.sub0 hs318 (Ap.alloc (OD.hb h263)))), (Ap.or0 hs644 (Ap.sub0 hs317 ap271) (Ap.sub0 hs318 ap271)), ap272, (Ap.alloc (OW.hb h266)), ap273, (Ap.sym (Ap.or hs644 (Ap.sub hs317 (Ap.sym ap274)) (Ap.sub hs318 (Ap.sym ap274)))), ap275, (Ap.alloc (OW.hb h267)), ap276, (Ap.sym (Ap.or hs644 (Ap.sub hs317 (Ap.sym ap277)) (Ap.sub hs318 (Ap.sym ap277)))), ap278, hr⟩
 }
 }
 }
 {
 replace hr := ite_neg hr hg634
 refine WL.skip .r rfl rfl ?_
 refine WL.skip .r rfl rfl ?_
 refine WL.skip .r rfl rfl ?_
 refine WL.skip .r rfl rfl ?_
 refine WL.skip .r rfl rfl ?_
 refine WL.skip .r rfl rfl ?_
 refine WL.skip .r rfl rfl ?_
 refine WL.skip .r rfl rfl ?_
 refine WL.skip .r rfl rfl ?_
 refine WL.skip .r rfl rfl ?_
 refine WL.skip .r rfl rfl ?_
 refine WL.skip .r rfl rfl ?_
 refine WL.skip .r rfl rfl ?_
 refine WL.skip .r rfl rfl ?_
 refine WL.skip .r rfl rfl ?_
 refine WL.skip .r rfl rfl ?_
 refine WL.pick .r rfl rfl rfl rfl rfl ?_
 refine WL.nil ?_
 refine Ex.thn_norm ?_
 obtain ⟨S646, hs647, h648⟩ := GPeer.close0_Log h378 hx302 h381
 exact ⟨[(0, .pointer (some ⟨p0, 0, none⟩)), (3, .pointer (some ⟨n0, 0, none⟩)), (4, .pointer (some ⟨b39, el40, none⟩)), (5, .pointer (some ⟨n254, 0, none⟩)), (92, .bool false)], (Fr.le_cons rfl (Fr.le_cons rfl (Fr.le_cons rfl (Fr.le_cons rfl (Fr.le_cons rfl Fr.le_nil))))), false, S646, F256, rfl, hS373, (hE258.up (by omega)), ho376, fo261, ho374, fo285, ho377, fo269, h259, h648, h379, h380, (Ap.or0 hs647 (Ap.sub0 hs317 ap270) (Ap.sub0 hs318 ap270)), (Ap.or0 hs647 (Ap.sub0 hs317 (Ap.alloc (OD.hb h263))) (Ap.sub0 hs318 (Ap.alloc (OD.hb h263)))), (Ap.or0 hs647 (Ap.sub0 hs317 ap271) (Ap.sub0 hs318 ap271)), ap272, (Ap.alloc (OW.hb h266)), ap273, (Ap.sym (Ap.or hs647 (Ap.sub hs317 (Ap.sym ap274)) (Ap.sub hs318 (Ap.sym ap274)))), ap275, (Ap.alloc (OW.hb h267)), ap276, (Ap.sym (Ap.or hs647 (Ap.sub hs317 (Ap.sym ap277)) (Ap.sub hs318 (Ap.sym ap277)))), ap278, hr⟩
 }
 }
 }
 {
 replace hr := ite_neg hr hg620
 refine WL.skip .r rfl rfl ?_
 refine WL.skip .r rfl rfl ?_
 refine WL.skip .r rfl rfl ?_
 refine WL.skip .r rfl rfl ?_
 refine WL.skip .r rfl rfl ?_
 refine WL.skip .r rfl rfl ?_
 refine WL.skip .r rfl rfl ?_
 refine WL.skip .r rfl rfl ?_
 refine WL.skip .r rfl rfl ?_
 refine WL.skip .r rfl rfl ?_
 refine WL.skip .r rfl rfl ?_
 refine WL.skip .r rfl rfl ?_
 refine WL.skip .r rfl rfl ?_
 refine WL.skip .r rfl rfl ?_
 refine WL.skip .r rfl rfl ?_
 refine WL.pick .r rfl rfl rfl rfl rfl ?_
 refine WL.move .r rfl rfl rfl rfl ?_
 refine WL.skip .r rfl rfl ?_
 refine WL.skip .r rfl rfl ?_
 refine WL.skip .r rfl rfl ?_
 refine WL.skip .r rfl rfl ?_
 refine WL.skip .r rfl rfl ?_
 refine WL.skip .r rfl rfl ?_
 refine WL.skip .r rfl rfl ?_
 refine WL.skip .r rfl rfl ?_
 refine WL.skip .r rfl rfl ?_
 refine WL.skip .r rfl rfl ?_
 refine WL.skip .r rfl rfl ?_
 refine WL.skip .r rfl rfl ?_
 refine WL.skip .r rfl rfl ?_
 refine WL.skip .r rfl rfl ?_
 refine WL.skip .r rfl rfl ?_
 refine WL.skip .r rfl rfl ?_
 refine WL.pick .r rfl rfl rfl rfl rfl ?_
 refine WL.nil ?_
 refine Ex.thn_norm ?_
 obtain ⟨S649, hs650, h651⟩ := GPeer.close0_Log h378 hx302 h381
 exact ⟨[(0, .pointer (some ⟨p0, 0, none⟩)), (3, .pointer (some ⟨n0, 0, none⟩)), (4, .pointer (some ⟨b39, el40, none⟩)), (5, .pointer (some ⟨n254, 0, none⟩)), (92, .bool false)], (Fr.le_cons rfl (Fr.le_cons rfl (Fr.le_cons rfl (Fr.le_cons rfl (Fr.le_cons rfl Fr.le_nil))))), false, S649, F256, rfl, hS373, (hE258.up (by omega)), ho376, fo261, ho374, fo285, ho377, fo269, h259, h651, h379, h380, (Ap.or0 hs650 (Ap.sub0 hs317 ap270) (Ap.sub0 hs318 ap270)), (Ap.or0 hs650 (Ap.sub0 hs317 (Ap.alloc (OD.hb h263))) (Ap.sub0 hs318 (Ap.alloc (OD.hb h263)))), (Ap.or0 hs650 (Ap.sub0 hs317 ap271) (Ap.sub0 hs318 ap271)), ap272, (Ap.alloc (OW.hb h266)), ap273, (Ap.sym (Ap.or hs650 (Ap.sub hs317 (Ap.sym ap274)) (Ap.sub hs318 (Ap.sym ap274)))), ap275, (Ap.alloc (OW.hb h267)), ap276, (Ap.sym (Ap.or hs650 (Ap.sub hs317 (Ap.sym ap277)) (Ap.sub hs318 (Ap.sym ap277)))), ap278, hr⟩
 }
 }
 {
 intro _ n429 H430 hI
 obtain ⟨x434, S441, F431, rfl, hS432, hE433, ho436, fo437, ho438, fo439, ho444, fo445, h435, h440, h442, h443, ap446, ap447, ap448, ap449, ap450, ap451, ap452, ap453, ap454, ap455, ap456, ap457, hr⟩ := hI
 have lt458 := hS432.lt ho436
 have lt459 := hS432.lt ho438
 have lt460 := hS432.lt ho444
 have hlen429 := hE433.le
 have hlon429 := hS432.lo
 unfold f_impl_Cluster_arrive_J1 at hr
 refine W.cut (fun fr n H => ∃ (x502 : Bool) (xs505 : (List GPeer)) (S508 : Nat → Prop) (F : Heap), fr = [(0, .pointer (some ⟨p0, 0, none⟩)), (5, .pointer (some ⟨n254, 0, none⟩))] ∧ St lo n H F ∧ Ext n0 F0 n F ∧ H n254 = some (.row 1 [.int .i64 2, .int .i64 x18.To, .int .i64 x18.From, .int .i64 x302.Term, .int .i64 0, .int .i64 0, .int .i64 0, .bool x502, .slice none 0 0]) ∧ F n254 = none ∧ H p0 = some (.row ez0 [.slice a2 x1.Peers.length cap3, .slice a7 x1.Net.length cap8, .slice a11 x1.Chosen.length cap12, .bool x1.Conflict]) ∧ F p0 = none ∧ OD lo n H F S508 [] (.slice a2 x1.Peers.length cap3) xs505 ∧ x1.Peers.length = xs505.length ∧ OW lo n H F (.slice a7 x1.Net.length cap8) x1.Net ∧ OW lo n H F (.slice a11 x1.Chosen.length cap12) x1.Chosen ∧ ¬ S508 n254 ∧ ¬ S508 p0 ∧ idOf (.slice a7 x1.Net.length cap8) ≠ some n254 ∧ idOf (.slice a7 x1.Net.length cap8) ≠ some p0 ∧ (∀ b, idOf (.slice a7 x1.Net.length cap8) = some b → ¬ S508 b) ∧ idOf (.slice a11 x1.Chosen.length cap12) ≠ some n254 ∧ idOf (.slice a11 x1.Chosen.length cap12) ≠ some p0 ∧ (∀ b, idOf (.slice a11 x1.Chosen.length cap12) = some b → ¬ S508 b) ∧ (∀ b, idOf (.slice a11 x1.Chosen.length cap12) = some b → idOf (.slice a7 x1.Net.length cap8) ≠ some b) ∧ f_impl_Cluster_arrive_J2 x1 x18 x302 x502 xs505 = some res) ?_ ?_
 {
 refine W.cond rfl (fun hc570 => ?_) (fun hc570 => ?_)
 {
 replace hr := iteB_pos hr hc570
 with_reducible refine W.region ?_
 refine WL.move .nil rfl rfl rfl rfl ?_
 refine WL.fieldAddr .nil rfl rfl rfl Try.underlying85 rfl info3 rfl rfl ?_
 refine WL.load1 .nil rfl rfl rfl Try.underlying3 rfl rfl ho436 rfl ?_
 obtain ⟨hc571, hr⟩ := chk_some hr
 refine WL.addI .nil rfl rfl rfl rfl rfl hc571.1 hc571.2 ?_
 refine WL.nilCheck .nil rfl rfl rfl rfl ?_
 refine WL.fieldAddr .nil rfl rfl rfl Try.underlying42 rfl info3 rfl rfl ?_
 obtain ⟨c572, ecs573, hrow574, hwin575, hb576⟩ := OD.get h440 hp41 hx302
 obtain ⟨a577, cap578, a579, cap580, a581, cap582, a583, cap584, rfl⟩ := GPeer.ofB hb576
 refine GL.store hS432 .nil (vc := [.int .i64 (x18.From + 1)]) rfl rfl rfl info3 rfl rfl rfl rfl hrow574 (OD.fnone h440 (OD.bS h440 hp41)) (win_fit2 hwin575 (Nat.le_of_ble_eq_true rfl) rfl (Nat.le_of_ble_eq_true rfl)) (by have := (OD.id_lt h440 (OD.bS h440 hp41)).1; omega) (one1 rfl) rfl (fun H585 hS586 ho587 hk588 => ?_)
 have ho589 := (hk588 n0 (fun hj => ap446 (by rw [hj]; exact (OD.bS h440 hp41)))).trans ho436
 have ho590 := (hk588 n254 (fun hj => ap447 (by rw [hj]; exact (OD.bS h440 hp41)))).trans ho438
 have ho591 := (hk588 p0 (fun hj => ap448 (by rw [hj]; exact (OD.bS h440 hp41)))).trans ho444
 have h592 := OW.keep h442 (Nat.le_refl _) (fun i hi => hk588 i (fun hj => ap452 i hi (by rw [hj]; exact (OD.bS h440 hp41))))
 have h593 := OW.keep h443 (Nat.le_refl _) (fun i hi => hk588 i (fun hj => ap456 i hi (by rw [hj]; exact (OD.bS h440 hp41))))
 have h594 := GPeer.put_Vote h440 hp41 hx302 hrow574 hwin575 (w := (x18.From + 1)) ho587 hk588
 have hl595 : x1.Peers.length = (setI xs262 x18.To ({ Up := x302.Up, Term := x302.Term, Vote := (x18.From + 1), Commit := x302.Commit, Role := x302.Role, Log := x302.Log, Votes := x302.Votes, Next := x302.Next, Match := x302.Match } : GPeer)).length := hl264.trans (by rw [setI_length])
 have hx596 : idx (setI xs262 x18.To ({ Up := x302.Up, Term := x302.Term, Vote := (x18.From + 1), Commit := x302.Commit, Role := x302.Role, Log := x302.Log, Votes := x302.Votes, Next := x302.Next, Match := x302.Match } : GPeer)) x18.To = some ({ Up := x302.Up, Term := x302.Term, Vote := (x18.From + 1), Commit := x302.Commit, Role := x302.Role, Log := x302.Log, Votes := x302.Votes, Next := x302.Next, Match := x302.Match } : GPeer) := idx_setI_same hx302
 refine WL.fieldAddr .nil rfl rfl rfl Try.underlying85 rfl info4 rfl rfl ?_
 refine GL.store hS586 .nil (vc := [.bool true]) (c' := [.int .i64 2, .int .i64 x18.To, .int .i64 x18.From, .int .i64 x302.Term, .int .i64 0, .int .i64 0, .int .i64 0, .bool true, .slice none 0 0]) rfl rfl rfl info4 rfl rfl rfl rfl ho590 fo439 (Nat.le_of_ble_eq_true rfl) (by omega) (one1 rfl) rfl (fun H597 hS598 ho599 hk600 => ?_)
 have ho601 := (hk600 _ (by omega)).trans ho589
 have ho602 := (hk600 _ (by omega)).trans ho591
 have h603 := OD.keep h594 (Nat.le_refl _) (fun i hi => hk600 i (fun hj => ap447 (hj ▸ hi)))
 have h604 := OW.keep h592 (Nat.le_refl _) (fun i hi => hk600 i (fun hj => ap450 (hj ▸ hi)))
 have h605 := OW.keep h593 (Nat.le_refl _) (fun i hi => hk600 i (fun hj => ap454 (hj ▸ hi)))
 refine WL.nil ?_
 refine Ex.thn_norm ?_
 exact ⟨[(0, .pointer (some ⟨p0, 0, none⟩)), (5, .pointer (some ⟨n254, 0, none⟩))], (Fr.le_cons rfl (Fr.le_cons rfl Fr.le_nil)), true, (setI xs262 x18.To ({ Up := x302.Up, Term := x302.Term, Vote := (x18.From + 1), Commit := x302.Commit, Role := x302.Role, Log := x302.Log, Votes := x302.Votes, Next := x302.Next, Match := x302.Match } : GPeer)), S441, F431, rfl, hS598, hE433, ho599, fo439, ho602, fo445, h603, hl595, h604, h605, ap447, ap448, ap450, ap451, ap452, ap454, ap455, ap456, ap457, hr⟩
 }
 {
 replace hr := iteB_neg hr hc570
 with_reducible refine W.skip ?_
 refine Ex.thn_norm ?_
 exact ⟨[(0, .pointer (some ⟨p0, 0, none⟩)), (5, .pointer (some ⟨n254, 0, none⟩))], (Fr.le_cons rfl (Fr.le_cons rfl Fr.le_nil)), false, xs262, S441, F431, rfl, hS432, hE433, ho438, fo439, ho444, fo445, h440, hl264, h442, h443, ap447, ap448, ap450, ap451, ap452, ap454, ap455, ap456, ap457, hr⟩
 }
 }
 {
 intro _ n497 H498 hI
 obtain ⟨x502, xs505, S508, F499, rfl, hS500, hE501, ho503, fo504, ho511, fo512, h506, hl507, h509, h510, ap513, ap514, ap515, ap516, ap517, ap518, ap519, ap520, ap521, hr⟩ := hI
 have lt522 := hS500.lt ho503
 have lt523 := hS500.lt ho511
 have hlen497 := hE501.le
 have hlon497 := hS500.lo
 unfold f_impl_Cluster_arrive_J2 at hr
 with_reducible refine W.region ?_
 refine WL.move .nil rfl rfl rfl rfl ?_
 refine WL.loadN .nil (l' := [.int .i64 2, .int .i64 x18.To, .int .i64 x18.From, .int .i64 x302.Term, .int .i64 0, .int .i64 0, .int .i64 0, .bool x502, .slice none 0 0]) rfl rfl rfl Try.underlying85 rfl info85 rfl ho503 rfl rfl ?_
 obtain ⟨x524, hx524, hr⟩ := bnd_some hr
 refine GL.callIO g .nil (fun i => (F499 i).isSome = true ∨ i = p0 ∨ S508 i ∨ idOf (.slice a7 x1.Net.length cap8) = some i ∨ idOf (.slice a11 x1.Chosen.length cap12) = some i) rfl rfl rfl rfl rfl rfl Try.func55 rfl rfl (Nat.le_refl _) hS500.lo (f_impl_Cluster_send_k (x1 := ({ Peers := xs505, Net := x1.Net, Chosen := x1.Chosen, Conflict := x1.Conflict } : GCluster)) (x18 := ({ Kind := 2, From := x18.To, To := x18.From, Term := x302.Term, A := 0, B := 0, C := 0, Ok := x502, Log := [] } : GMsg)) g (St.vis hS500 (fun i hi => .inl hi)) (by rw [← hl507]; exact vis_get ho511 (.inr (.inl rfl))) fo512 lo17 (OD.head hl507 (OD.vis h506 (fun i hi => (.inr (.inr (.inl hi)))))) (OW.vis h509 (fun i hi => (.inr (.inr (.inr (.inl hi)))))) (OW.vis h510 (fun i hi => (.inr (.inr (.inr (.inr (hi))))))) SR.nil ap514 ap516 ap517 ap519 ap520 ap521 hx524) (fun v n525 H526 H527 hn528 hp529 hle530 hnew531 hk532 hd533 => ?_)
 obtain ⟨F544, S535, a537, cap538, a540, cap541, hX545, hS543, ho546, rfl, h534, hl536, h539, h542, ap547, ap548, ap549, ap550, ap551, ap552⟩ := hp529
 have hS553 : St lo n525 H526 _ := ⟨hS543.lo, fun i hi => (hnew531 i (by omega)).trans (hS543.hb i hi), hS543.fh.trans hle530⟩
 have ho554 := (hk532 _ (by have := lt522; omega) (fun hs => by
      rcases hs with h | h | h | h | h
      · rw [fo504] at h; cases h
      · omega
      · exact ap513 h
      · exact ap515 h
      · exact ap518 h)).trans ho503
 have fo555 := (hX545.eq _ (by have := lt522; omega)).trans fo504
 have fo556 := (hX545.eq _ (by have := lt523; omega)).trans fo512
 have hE557 := (hE501.up (n' := n497) (by omega)).trans hX545
 have ho558 := hle530 _ _ ho546
 have h559 := OD.le h534 hle530
 have hl560 : x1.Peers.length = x524.Peers.length := hl507.trans hl536
 rw [← hl507] at h559
 have h562 := OW.le h539 hle530
 have h564 := OW.le h542 hle530
 rw [← hl507] at ho558
 have ap565 : ¬ S535 n254 := fun hj => (OD.after h534 hd533 hj).elim (fun h => by have := lt522; omega) (fun hs => by
      rcases hs with h | h | h | h | h
      · rw [fo504] at h; cases h
      · omega
      · exact ap513 h
      · exact ap515 h
      · exact ap518 h)
 have ap566 : idOf (.slice a537 x524.Net.length cap538) ≠ some n254 := fun hj => (OW.after h539 hd533 hj).elim (fun h => by have := lt522; omega) (fun hs => by
      rcases hs with h | h | h | h | h
      · rw [fo504] at h; cases h
      · omega
      · exact ap513 h
      · exact ap515 h
      · exact ap518 h)
 have ap567 : idOf (.slice a540 x524.Chosen.length cap541) ≠ some n254 := fun hj => (OW.after h542 hd533 hj).elim (fun h => by have := lt522; omega) (fun hs => by
      rcases hs with h | h | h | h | h
      · rw [fo504] at h; cases h
      · omega
      · exact ap513 h
      · exact ap515 h
      · exact ap518 h)
 have hlon525 := hS553.lo
 have lt568 := hS553.lt ho554
 have lt569 := hS553.lt ho558
 refine WL.nil ?_
 with_reducible refine Ex.blk_norm ?_
 obtain rfl := Option.some.inj hr
 exact ⟨.inl rfl, _, .nil, ⟨F544, S535, a537, cap538, a540, cap541, (hE557.up (by omega)), hS553, ho558, rfl, h559, hl560, h562, h564, ap547, ap548, ap549, ap550, ap551, ap552⟩⟩
 }
 }
 }
 {
 replace hr := ite_neg hr hc301
 with_reducible refine W.seq ?_
 with_reducible refine W.region ?_
 refine WL.bin .nil rfl rfl rfl rfl rfl rfl ?_
 refine WL.assign .nil rfl rfl rfl rfl ?_
 refine WL.nil ?_
 refine Ex.thn_norm ?_
 refine W.condD rfl (fun hc652 => ?_) (fun hc652 => ?_)
 {
 replace hr := ite_pos hr hc652
 with_reducible refine W.seq ?_
 refine W.cut (fun fr n H => ∃ (x674 : Bool) (S679 : Nat → Prop) (F : Heap), fr = [(0, .pointer (some ⟨p0, 0, none⟩)), (3, .pointer (some ⟨n0, 0, none⟩)), (4, .pointer (some ⟨b39, el40, none⟩)), (122, .bool x674)] ∧ St lo n H F ∧ Ext n0 F0 n F ∧ H n0 = some (.row 1 [.int .i64 x18.Kind, .int .i64 x18.From, .int .i64 x18.To, .int .i64 x18.Term, .int .i64 x18.A, .int .i64 x18.B, .int .i64 x18.C, .bool x18.Ok, .slice a19 x18.Log.length cap20]) ∧ F n0 = none ∧ H p0 = some (.row ez0 [.slice a2 x1.Peers.length cap3, .slice a7 x1.Net.length cap8, .slice a11 x1.Chosen.length cap12, .bool x1.Conflict]) ∧ F p0 = none ∧ SR F (.slice a19 x18.Log.length cap20) x18.Log ∧ OD lo n H F S679 [] (.slice a2 x1.Peers.length cap3) xs262 ∧ OW lo n H F (.slice a7 x1.Net.length cap8) x1.Net ∧ OW lo n H F (.slice a11 x1.Chosen.length cap12) x1.Chosen ∧ ¬ S679 n0 ∧ ¬ S679 p0 ∧ idOf (.slice a7 x1.Net.length cap8) ≠ some n0 ∧ idOf (.slice a7 x1.Net.length cap8) ≠ some p0 ∧ (∀ b, idOf (.slice a7 x1.Net.length cap8) = some b → ¬ S679 b) ∧ idOf (.slice a11 x1.Chosen.length cap12) ≠ some n0 ∧ idOf (.slice a11 x1.Chosen.length cap12) ≠ some p0 ∧ (∀ b, idOf (.slice a11 x1.Chosen.length cap12) = some b → ¬ S679 b) ∧ (∀ b, idOf (.slice a11 x1.Chosen.length cap12) = some b → idOf (.slice a7 x1.Net.length cap8) ≠ some b) ∧ f_impl_Cluster_arrive_J3 xs262 x18 x1 x674 = some res) ?_ ?_
 {
 refine W.regionD [0, 1, 2, 3, 4, 5, 6, 7, 8, 9, 10, 11, 12, 13, 14, 15, 16, 17] [false, false, false, false, false, false, false, false, false, false, false, false, false, false, false, false, false, false] rfl rfl (by kernel_rfl) (by kernel_rfl) (by (conv => lhs; simp only [List.map_cons, List.map_nil, List.getD_cons_zero, List.getD_cons_succ]) <;> rfl) ?_
 refine WL.fieldAddr .r rfl rfl rfl Try.underlying85 rfl info3 rfl rfl ?_
 refine WL.load1 .r rfl rfl rfl Try.underlying3 rfl rfl ho296 rfl ?_
 refine WL.move .r rfl rfl rfl rfl ?_
 refine WL.nilCheck .r rfl rfl rfl rfl ?_
 refine WL.fieldAddr .r rfl rfl rfl Try.underlying42 rfl info3 rfl rfl ?_
 obtain ⟨x789, hx789, hr⟩ := bnd_some hr
 obtain ⟨c790, ecs791, hrow792, hwin793, hb794⟩ := OD.get h298 hp41 hx789
 obtain ⟨a795, cap796, a797, cap798, a799, cap800, a801, cap802, rfl⟩ := GPeer.ofB hb794
 refine WL.load1 .r rfl rfl rfl Try.underlying3 rfl rfl hrow792 ((win_get (m := 1) hwin793 (show (1 : Nat) < 9 by decide)).trans rfl) ?_
 refine WL.bin .r rfl rfl rfl rfl rfl rfl ?_
 refine WL.move .r rfl rfl rfl rfl ?_
 refine WL.guardD rfl rfl rfl (fun hg803 => ?_) (fun hg803 => ?_)
 {
 replace hr := ite_pos hr hg803
 refine WL.move .r rfl rfl rfl rfl ?_
 refine WL.nilCheck .r rfl rfl rfl rfl ?_
 refine WL.fieldAddr .r rfl rfl rfl Try.underlying42 rfl info3 rfl rfl ?_
 refine WL.load1 .r rfl rfl rfl Try.underlying3 rfl rfl hrow792 ((win_get (m := 4) hwin793 (show (4 : Nat) < 9 by decide)).trans rfl) ?_
 refine WL.bin .r rfl rfl rfl rfl rfl rfl ?_
 refine WL.pick .r rfl rfl rfl rfl rfl ?_
 refine WL.move .r rfl rfl rfl rfl ?_
 refine WL.guardD rfl rfl rfl (fun hg804 => ?_) (fun hg804 => ?_)
 {
 replace hr := ite_pos hr hg804
 refine WL.fieldAddr .r rfl rfl rfl Try.underlying85 rfl info4 rfl rfl ?_
 refine WL.load1 .r rfl rfl rfl Try.underlying4 rfl rfl ho296 rfl ?_
 refine WL.pick .r rfl rfl rfl rfl rfl ?_
 refine WL.nil ?_
 refine Ex.thn_norm ?_
 exact ⟨[(0, .pointer (some ⟨p0, 0, none⟩)), (3, .pointer (some ⟨n0, 0, none⟩)), (4, .pointer (some ⟨b39, el40, none⟩)), (122, .bool x18.Ok)], (Fr.le_cons rfl (Fr.le_cons rfl (Fr.le_cons rfl (Fr.le_cons rfl Fr.le_nil)))), x18.Ok, S265, F256, rfl, hS293, (hE258.up (by omega)), ho296, fo261, ho297, fo269, h259, h298, h299, h300, ap270, ap271, ap272, ap273, ap274, ap275, ap276, ap277, ap278, hr⟩
 }
 {
 replace hr := ite_neg hr hg804
 refine WL.skip .r rfl rfl ?_
 refine WL.skip .r rfl rfl ?_
 refine WL.pick .r rfl rfl rfl rfl rfl ?_
 refine WL.nil ?_
 refine Ex.thn_norm ?_
 exact ⟨[(0, .pointer (some ⟨p0, 0, none⟩)), (3, .pointer (some ⟨n0, 0, none⟩)), (4, .pointer (some ⟨b39, el40, none⟩)), (122, .bool false)], (Fr.le_cons rfl (Fr.le_cons rfl (Fr.le_cons rfl (Fr.le_cons rfl Fr.le_nil)))), false, S265, F256, rfl, hS293, (hE258.up (by omega)), ho296, fo261, ho297, fo269, h259, h298, h299, h300, ap270, ap271, ap272, ap273, ap274, ap275, ap276, ap277, ap278, hr⟩
 }
 }
 {
 replace hr := ite_neg hr hg803
 refine WL.skip .r rfl rfl ?_
 refine WL.skip .r rfl rfl ?_
 refine WL.skip .r rfl rfl ?_
 refine WL.skip .r rfl rfl ?_
 refine WL.skip .r rfl rfl ?_
 refine WL.pick .r rfl rfl rfl rfl rfl ?_
 refine WL.move .r rfl rfl rfl rfl ?_
 refine WL.skip .r rfl rfl ?_
 refine WL.skip .r rfl rfl ?_
 refine WL.pick .r rfl rfl rfl rfl rfl ?_
 refine WL.nil ?_
 refine Ex.thn_norm ?_
 exact ⟨[(0, .pointer (some ⟨p0, 0, none⟩)), (3, .pointer (some ⟨n0, 0, none⟩)), (4, .pointer (some ⟨b39, el40, none⟩)), (122, .bool false)], (Fr.le_cons rfl (Fr.le_cons rfl (Fr.le_cons rfl (Fr.le_cons rfl Fr.le_nil)))), false, S265, F256, rfl, hS293, (hE258.up (by omega)), ho296, fo261, ho297, fo269, h259, h298, h299, h300, ap270, ap271, ap272, ap273, ap274, ap275, ap276, ap277, ap278, hr⟩
 }
 }
 {
 intro _ n669 H670 hI
 obtain ⟨x674, S679, F671, rfl, hS672, hE673, ho676, fo677, ho682, fo683, h675, h678, h680, h681, ap684, ap685, ap686, ap687, ap688, ap689, ap690, ap691, ap692, hr⟩ := hI
 have lt693 := hS672.lt ho676
 have lt694 := hS672.lt ho682
 have hlen669 := hE673.le
 have hlon669 := hS672.lo
 unfold f_impl_Cluster_arrive_J3 at hr
 refine W.cond rfl (fun hc695 => ?_) (fun hc695 => ?_)
 {
 replace hr := iteB_pos hr hc695
 with_reducible refine W.seq ?_
 refine W.regionD [0, 1, 2, 3, 4, 5, 6, 7] [false, false, false, false, false, false, false, true] rfl rfl (by kernel_rfl) (by kernel_rfl) (by (conv => lhs; simp only [List.map_cons, List.map_nil, List.getD_cons_zero, List.getD_cons_succ]) <;> rfl) ?_
 refine WL.move .r rfl rfl rfl rfl ?_
 refine WL.nilCheck .r rfl rfl rfl rfl ?_
 refine WL.fieldAddr .r rfl rfl rfl Try.underlying42 rfl info40 rfl rfl ?_
 obtain ⟨x696, hx696, hr⟩ := bnd_some hr
 obtain ⟨c697, ecs698, hrow699, hwin700, hb701⟩ := OD.get h678 hp41 hx696
 obtain ⟨a702, cap703, a704, cap705, a706, cap707, a708, cap709, rfl⟩ := GPeer.ofB hb701
 obtain ⟨S710, hs711, hs712, hs713, h714, h715⟩ := GPeer.open_Votes h678 hp41 hx696 hrow699 hwin700 (List.forall_mem_nil _)
 refine WL.load1 .r rfl rfl rfl Try.underlying40 rfl rfl hrow699 ((win_get (m := 6) hwin700 (show (6 : Nat) < 9 by decide)).trans rfl) ?_
 refine WL.fieldAddr .r rfl rfl rfl Try.underlying85 rfl info3 rfl rfl ?_
 refine WL.load1 .r rfl rfl rfl Try.underlying3 rfl rfl ho676 rfl ?_
 obtain ⟨x717, hx717, hr⟩ := bnd_some hr
 refine GL.indexO .r rfl rfl rfl Try.underlying40 info4 rfl rfl h714 rfl hx717 (fun b718 kp719 c720 ecs721 hid725 hrow722 hwin723 hR724 hup726 => ?_)
 have hcs : _ = ([.bool x717] : List Value) := hR724
 subst hcs
 refine GL.store hS672 .w (vc := [.bool true]) rfl rfl rfl info4 rfl rfl rfl rfl hrow722 (OW.fnone h714 hid725) (by first | exact win_fit hwin723 (Nat.le_of_ble_eq_true rfl) rfl (Nat.le_of_ble_eq_true rfl) | exact win_fit2 hwin723 (Nat.le_of_ble_eq_true rfl) rfl (Nat.le_of_ble_eq_true rfl) | exact win_fit3 hwin723 (Nat.le_of_ble_eq_true rfl) rfl (Nat.le_of_ble_eq_true rfl)) (OW.id_lt h714 hid725).1 (one1 rfl) rfl (fun H727 hS728 ho729 hk730 => ?_)
 have h731 := hup726 0 [.bool true] (true : Bool) H727 (Nat.le_of_ble_eq_true rfl) rfl ho729
 have ho732 := (hk730 n0 (fun hj => (Ap.sub0 hs712 ap684) (by rw [hj]; exact hid725))).trans ho676
 have ho733 := (hk730 p0 (fun hj => (Ap.sub0 hs712 ap685) (by rw [hj]; exact hid725))).trans ho682
 have h734 := OD.keep h715 (Nat.le_refl _) (fun i hi => hk730 i (fun hj => (Ap.sym hs713) i hi (by rw [hj]; exact hid725)))
 have h735 := OW.keep h680 (Nat.le_refl _) (fun i hi => hk730 i (fun hj => (Ap.sym (Ap.sub hs712 (Ap.sym ap688))) i hi (by rw [hj]; exact hid725)))
 have h736 := OW.keep h681 (Nat.le_refl _) (fun i hi => hk730 i (fun hj => (Ap.sym (Ap.sub hs712 (Ap.sym ap691))) i hi (by rw [hj]; exact hid725)))
 have hl737 : x696.Votes.length = (setI x696.Votes x18.From true).length := (setI_length _ _ _).symm
 refine WL.nil ?_
 refine Ex.thn_norm ?_
 with_reducible refine W.region ?_
 refine WL.move .nil rfl rfl rfl rfl ?_
 refine WL.fieldAddr .nil rfl rfl rfl Try.underlying85 rfl info3 rfl rfl ?_
 refine WL.load1 .nil rfl rfl rfl Try.underlying3 rfl rfl ho732 rfl ?_
 obtain ⟨S738, hs739, h740⟩ := GPeer.close_Votes h734 hx696 hl737 h731
 have hl741 : x1.Peers.length = (setI xs262 x18.To ({ Up := x696.Up, Term := x696.Term, Vote := x696.Vote, Commit := x696.Commit, Role := x696.Role, Log := x696.Log, Votes := (setI x696.Votes x18.From true), Next := x696.Next, Match := x696.Match } : GPeer)).length := hl264.trans (by rw [setI_length])
 have hx742 : idx (setI xs262 x18.To ({ Up := x696.Up, Term := x696.Term, Vote := x696.Vote, Commit := x696.Commit, Role := x696.Role, Log := x696.Log, Votes := (setI x696.Votes x18.From true), Next := x696.Next, Match := x696.Match } : GPeer)) x18.To = some ({ Up := x696.Up, Term := x696.Term, Vote := x696.Vote, Commit := x696.Commit, Role := x696.Role, Log := x696.Log, Votes := (setI x696.Votes x18.From true), Next := x696.Next, Match := x696.Match } : GPeer) := idx_setI_same hx696
 obtain ⟨x743, hx743, hr⟩ := bnd_some hr
 refine GL.callIO g .nil (fun i => (F671 i).isSome = true ∨ i = p0 ∨ S738 i ∨ idOf (.slice a7 x1.Net.length cap8) = some i ∨ idOf (.slice a11 x1.Chosen.length cap12) = some i) rfl rfl rfl rfl rfl rfl Try.func87 rfl rfl (Nat.le_refl _) hS728.lo (f_impl_Cluster_elect_k (x1 := ({ Peers := (setI xs262 x18.To ({ Up := x696.Up, Term := x696.Term, Vote := x696.Vote, Commit := x696.Commit, Role := x696.Role, Log := x696.Log, Votes := (setI x696.Votes x18.From true), Next := x696.Next, Match := x696.Match } : GPeer)), Net := x1.Net, Chosen := x1.Chosen, Conflict := x1.Conflict } : GCluster)) g (St.vis hS728 (fun i hi => .inl hi)) (by rw [← hl741]; exact vis_get ho733 (.inr (.inl rfl))) fo683 lo17 (OD.head hl741 (OD.vis h740 (fun i hi => (.inr (.inr (.inl hi)))))) (OW.vis h735 (fun i hi => (.inr (.inr (.inr (.inl hi)))))) (OW.vis h736 (fun i hi => (.inr (.inr (.inr (.inr (hi))))))) (Ap.or0 hs739 (Ap.sub0 hs711 ap685) (Ap.sub0 hs712 ap685)) ap687 (Ap.sym (Ap.or hs739 (Ap.sub hs711 (Ap.sym ap688)) (Ap.sub hs712 (Ap.sym ap688)))) ap690 (Ap.sym (Ap.or hs739 (Ap.sub hs711 (Ap.sym ap691)) (Ap.sub hs712 (Ap.sym ap691)))) ap692 hx743) (fun v n744 H745 H746 hn747 hp748 hle749 hnew750 hk751 hd752 => ?_)
 obtain ⟨F763, S754, a756, cap757, a759, cap760, hX764, hS762, ho765, rfl, h753, hl755, h758, h761, ap766, ap767, ap768, ap769, ap770, ap771⟩ := hp748
 have hS772 : St lo n744 H745 _ := ⟨hS762.lo, fun i hi => (hnew750 i (by omega)).trans (hS762.hb i hi), hS762.fh.trans hle749⟩
 have ho773 := (hk751 _ (by have := lt693; omega) (fun hs => by
      rcases hs with h | h | h | h | h
      · rw [fo677] at h; cases h
      · omega
      · exact (Ap.or0 hs739 (Ap.sub0 hs711 ap684) (Ap.sub0 hs712 ap684)) h
      · exact ap686 h
      · exact ap689 h)).trans ho732
 have fo774 := (hX764.eq _ (by have := lt693; omega)).trans fo677
 have fo775 := (hX764.eq _ (by have := lt694; omega)).trans fo683
 have hE776 := (hE673.up (n' := n669) (by omega)).trans hX764
 have ho777 := hle749 _ _ ho765
 have h778 := OD.le h753 hle749
 have hl779 : x1.Peers.length = x743.Peers.length := hl741.trans hl755
 rw [← hl741] at h778
 have h781 := OW.le h758 hle749
 have h783 := OW.le h761 hle749
 rw [← hl741] at ho777
 have ap784 : ¬ S754 n0 := fun hj => (OD.after h753 hd752 hj).elim (fun h => by have := lt693; omega) (fun hs => by
      rcases hs with h | h | h | h | h
      · rw [fo677] at h; cases h
      · omega
      · exact (Ap.or0 hs739 (Ap.sub0 hs711 ap684) (Ap.sub0 hs712 ap684)) h
      · exact ap686 h
      · exact ap689 h)
 have ap785 : idOf (.slice a756 x743.Net.length cap757) ≠ some n0 := fun hj => (OW.after h758 hd752 hj).elim (fun h => by have := lt693; omega) (fun hs => by
      rcases hs with h | h | h | h | h
      · rw [fo677] at h; cases h
      · omega
      · exact (Ap.or0 hs739 (Ap.sub0 hs711 ap684) (Ap.sub0 hs712 ap684)) h
      · exact ap686 h
      · exact ap689 h)
 have ap786 : idOf (.slice a759 x743.Chosen.length cap760) ≠ some n0 := fun hj => (OW.after h761 hd752 hj).elim (fun h => by have := lt693; omega) (fun hs => by
      rcases hs with h | h | h | h | h
      · rw [fo677] at h; cases h
      · omega
      · exact (Ap.or0 hs739 (Ap.sub0 hs711 ap684) (Ap.sub0 hs712 ap684)) h
      · exact ap686 h
      · exact ap689 h)
 have hlon744 := hS772.lo
 have lt787 := hS772.lt ho773
 have lt788 := hS772.lt ho777
 refine WL.nil ?_
 with_reducible refine Ex.blk_norm ?_
 obtain rfl := Option.some.inj hr
 exact ⟨.inl rfl, _, .nil, ⟨F763, S754, a756, cap757, a759, cap760, (hE776.up (by omega)), hS772, ho777, rfl, h778, hl779, h781, h783, ap766, ap767, ap768, ap769, ap770, ap771⟩⟩
 }
 {
 replace hr := iteB_neg hr hc695
 with_reducible refine W.skip ?_
 with_reducible refine Ex.blk_norm ?_
 obtain rfl := Option.some.inj hr
 exact ⟨.inl rfl, _, .nil, ⟨F671, S679, a7, cap8, a11, cap12, (hE673.up (by omega)), hS672, ho682, rfl, h678, hl264, h680, h681, ap685, ap687, ap690, ap688, ap691, ap692⟩⟩
 }
 }
 }
 {
 replace hr := ite_neg hr hc652
 with_reducible refine W.seq ?_
 with_reducible refine W.region ?_
 refine WL.bin .nil rfl rfl rfl rfl rfl rfl ?_
 refine WL.assign .nil rfl rfl rfl rfl ?_
 refine WL.nil ?_
 refine Ex.thn_norm ?_
 refine W.condD rfl (fun hc805 => ?_) (fun hc805 => ?_)
 {
 replace hr := ite_pos hr hc805
 with_reducible refine W.region ?_
 refine WL.move .nil rfl rfl rfl rfl ?_
 refine WL.loadN .nil (l' := [.int .i64 x18.Kind, .int .i64 x18.From, .int .i64 x18.To, .int .i64 x18.Term, .int .i64 x18.A, .int .i64 x18.B, .int .i64 x18.C, .bool x18.Ok, .slice a19 x18.Log.length cap20]) rfl rfl rfl Try.underlying85 rfl info85 rfl ho296 rfl rfl ?_
 refine WL.loadN .nil (l' := [.int .i64 0, .int .i64 x18.To, .int .i64 x18.From, .int .i64 0, .int .i64 0, .int .i64 0, .int .i64 0, .bool false, .slice none 0 0]) rfl rfl rfl Try.underlying85 rfl info85 rfl ho294 rfl rfl ?_
 obtain ⟨x806, hx806, hr⟩ := bnd_some hr
 refine GL.callIO g .nil (fun i => (F256 i).isSome = true ∨ i = p0 ∨ S265 i ∨ idOf (.slice a7 x1.Net.length cap8) = some i ∨ idOf (.slice a11 x1.Chosen.length cap12) = some i) rfl rfl rfl rfl rfl rfl Try.func88 rfl rfl (Nat.le_refl _) hS293.lo (f_impl_Cluster_take_k (x1 := ({ Peers := xs262, Net := x1.Net, Chosen := x1.Chosen, Conflict := x1.Conflict } : GCluster)) (x18 := ({ Kind := x18.Kind, From := x18.From, To := x18.To, Term := x18.Term, A := x18.A, B := x18.B, C := x18.C, Ok := x18.Ok, Log := x18.Log } : GMsg)) (x22 := ({ Kind := 0, From := x18.To, To := x18.From, Term := 0, A := 0, B := 0, C := 0, Ok := false, Log := [] } : GMsg)) g (St.vis hS293 (fun i hi => .inl hi)) (by rw [← hl264]; exact vis_get ho297 (.inr (.inl rfl))) fo269 lo17 (OD.head hl264 (OD.vis h298 (fun i hi => (.inr (.inr (.inl hi)))))) (OW.vis h299 (fun i hi => (.inr (.inr (.inr (.inl hi)))))) (OW.vis h300 (fun i hi => (.inr (.inr (.inr (.inr (hi))))))) h259 SR.nil ap271 ap273 ap274 ap276 ap277 ap278 hx806) (fun v n807 H808 H809 hn810 hp811 hle812 hnew813 hk814 hd815 => ?_)
 obtain ⟨F826, S817, a819, cap820, a822, cap823, hX827, hS825, ho828, rfl, h816, hl818, h821, h824, ap829, ap830, ap831, ap832, ap833, ap834⟩ := hp811
 have hS835 : St lo n807 H808 _ := ⟨hS825.lo, fun i hi => (hnew813 i (by omega)).trans (hS825.hb i hi), hS825.fh.trans hle812⟩
 have ho836 := (hk814 _ (by have := lt279; omega) (fun hs => by
      rcases hs with h | h | h | h | h
      · rw [fo261] at h; cases h
      · omega
      · exact ap270 h
      · exact ap272 h
      · exact ap275 h)).trans ho296
 have ho837 := (hk814 _ (by have := lt286; omega) (fun hs => by
      rcases hs with h | h | h | h | h
      · rw [fo285] at h; cases h
      · omega
      · exact (Ap.alloc (OD.hb h263)) h
      · exact (Ap.alloc (OW.hb h266)) h
      · exact (Ap.alloc (OW.hb h267)) h)).trans ho294
 have fo838 := (hX827.eq _ (by have := lt279; omega)).trans fo261
 have fo839 := (hX827.eq _ (by have := lt280; omega)).trans fo269
 have fo840 := (hX827.eq _ (by have := lt286; omega)).trans fo285
 have hE841 := (hE258.up (n' := (n254 + 1)) (by omega)).trans hX827
 have ho842 := hle812 _ _ ho828
 have h843 := OD.le h816 hle812
 have hl844 : x1.Peers.length = x806.Peers.length := hl264.trans hl818
 rw [← hl264] at h843
 have h846 := OW.le h821 hle812
 have h848 := OW.le h824 hle812
 rw [← hl264] at ho842
 have ap849 : ¬ S817 n0 := fun hj => (OD.after h816 hd815 hj).elim (fun h => by have := lt279; omega) (fun hs => by
      rcases hs with h | h | h | h | h
      · rw [fo261] at h; cases h
      · omega
      · exact ap270 h
      · exact ap272 h
      · exact ap275 h)
 have ap850 : ¬ S817 n254 := fun hj => (OD.after h816 hd815 hj).elim (fun h => by have := lt286; omega) (fun hs => by
      rcases hs with h | h | h | h | h
      · rw [fo285] at h; cases h
      · omega
      · exact (Ap.alloc (OD.hb h263)) h
      · exact (Ap.alloc (OW.hb h266)) h
      · exact (Ap.alloc (OW.hb h267)) h)
 have ap851 : idOf (.slice a819 x806.Net.length cap820) ≠ some n0 := fun hj => (OW.after h821 hd815 hj).elim (fun h => by have := lt279; omega) (fun hs => by
      rcases hs with h | h | h | h | h
      · rw [fo261] at h; cases h
      · omega
      · exact ap270 h
      · exact ap272 h
      · exact ap275 h)
 have ap852 : idOf (.slice a819 x806.Net.length cap820) ≠ some n254 := fun hj => (OW.after h821 hd815 hj).elim (fun h => by have := lt286; omega) (fun hs => by
      rcases hs with h | h | h | h | h
      · rw [fo285] at h; cases h
      · omega
      · exact (Ap.alloc (OD.hb h263)) h
      · exact (Ap.alloc (OW.hb h266)) h
      · exact (Ap.alloc (OW.hb h267)) h)
 have ap853 : idOf (.slice a822 x806.Chosen.length cap823) ≠ some n0 := fun hj => (OW.after h824 hd815 hj).elim (fun h => by have := lt279; omega) (fun hs => by
      rcases hs with h | h | h | h | h
      · rw [fo261] at h; cases h
      · omega
      · exact ap270 h
      · exact ap272 h
      · exact ap275 h)
 have ap854 : idOf (.slice a822 x806.Chosen.length cap823) ≠ some n254 := fun hj => (OW.after h824 hd815 hj).elim (fun h => by have := lt286; omega) (fun hs => by
      rcases hs with h | h | h | h | h
      · rw [fo285] at h; cases h
      · omega
      · exact (Ap.alloc (OD.hb h263)) h
      · exact (Ap.alloc (OW.hb h266)) h
      · exact (Ap.alloc (OW.hb h267)) h)
 have hlon807 := hS835.lo
 have lt855 := hS835.lt ho836
 have lt856 := hS835.lt ho842
 have lt857 := hS835.lt ho837
 refine WL.nil ?_
 with_reducible refine Ex.blk_norm ?_
 obtain rfl := Option.some.inj hr
 exact ⟨.inl rfl, _, .nil, ⟨F826, S817, a819, cap820, a822, cap823, (hE841.up (by omega)), hS835, ho842, rfl, h843, hl844, h846, h848, ap829, ap830, ap831, ap832, ap833, ap834⟩⟩
 }
 {
 replace hr := ite_neg hr hc805
 with_reducible refine W.seq ?_
 with_reducible refine W.region ?_
 refine WL.bin .nil rfl rfl rfl rfl rfl rfl ?_
 refine WL.assign .nil rfl rfl rfl rfl ?_
 refine WL.nil ?_
 refine Ex.thn_norm ?_
 refine W.condD rfl (fun hc858 => ?_) (fun hc858 => ?_)
 {
 replace hr := ite_pos hr hc858
 with_reducible refine W.seq ?_
 with_reducible refine W.seq ?_
 refine W.cut (fun fr n H => ∃ (x879 : Bool) (S884 : Nat → Prop) (F : Heap), fr = [(0, .pointer (some ⟨p0, 0, none⟩)), (3, .pointer (some ⟨n0, 0, none⟩)), (4, .pointer (some ⟨b39, el40, none⟩)), (155, .bool x879)] ∧ St lo n H F ∧ Ext n0 F0 n F ∧ H n0 = some (.row 1 [.int .i64 x18.Kind, .int .i64 x18.From, .int .i64 x18.To, .int .i64 x18.Term, .int .i64 x18.A, .int .i64 x18.B, .int .i64 x18.C, .bool x18.Ok, .slice a19 x18.Log.length cap20]) ∧ F n0 = none ∧ H p0 = some (.row ez0 [.slice a2 x1.Peers.length cap3, .slice a7 x1.Net.length cap8, .slice a11 x1.Chosen.length cap12, .bool x1.Conflict]) ∧ F p0 = none ∧ SR F (.slice a19 x18.Log.length cap20) x18.Log ∧ OD lo n H F S884 [] (.slice a2 x1.Peers.length cap3) xs262 ∧ OW lo n H F (.slice a7 x1.Net.length cap8) x1.Net ∧ OW lo n H F (.slice a11 x1.Chosen.length cap12) x1.Chosen ∧ ¬ S884 n0 ∧ ¬ S884 p0 ∧ idOf (.slice a7 x1.Net.length cap8) ≠ some n0 ∧ idOf (.slice a7 x1.Net.length cap8) ≠ some p0 ∧ (∀ b, idOf (.slice a7 x1.Net.length cap8) = some b → ¬ S884 b) ∧ idOf (.slice a11 x1.Chosen.length cap12) ≠ some n0 ∧ idOf (.slice a11 x1.Chosen.length cap12) ≠ some p0 ∧ (∀ b, idOf (.slice a11 x1.Chosen.length cap12) = some b → ¬ S884 b) ∧ (∀ b, idOf (.slice a11 x1.Chosen.length cap12) = some b → idOf (.slice a7 x1.Net.length cap8) ≠ some b) ∧ f_impl_Cluster_arrive_J4 xs262 x1 x18 x879 = some res) ?_ ?_
 {
 refine W.regionD [0, 1, 2, 3, 4, 5, 6, 7, 8, 9, 10, 11, 12, 13] [false, false, false, false, false, false, false, false, false, false, false, false, false, false] rfl rfl (by kernel_rfl) (by kernel_rfl) (by (conv => lhs; simp only [List.map_cons, List.map_nil, List.getD_cons_zero, List.getD_cons_succ]) <;> rfl) ?_
 refine WL.fieldAddr .r rfl rfl rfl Try.underlying85 rfl info3 rfl rfl ?_
 refine WL.load1 .r rfl rfl rfl Try.underlying3 rfl rfl ho296 rfl ?_
 refine WL.move .r rfl rfl rfl rfl ?_
 refine WL.nilCheck .r rfl rfl rfl rfl ?_
 refine WL.fieldAddr .r rfl rfl rfl Try.underlying42 rfl info3 rfl rfl ?_
 obtain ⟨x1192, hx1192, hr⟩ := bnd_some hr
 obtain ⟨c1193, ecs1194, hrow1195, hwin1196, hb1197⟩ := OD.get h298 hp41 hx1192
 obtain ⟨a1198, cap1199, a1200, cap1201, a1202, cap1203, a1204, cap1205, rfl⟩ := GPeer.ofB hb1197
 refine WL.load1 .r rfl rfl rfl Try.underlying3 rfl rfl hrow1195 ((win_get (m := 1) hwin1196 (show (1 : Nat) < 9 by decide)).trans rfl) ?_
 refine WL.bin .r rfl rfl rfl rfl rfl rfl ?_
 refine WL.move .r rfl rfl rfl rfl ?_
 refine WL.guardN rfl rfl rfl (fun hg1206 => ?_) (fun hg1206 => ?_)
 {
 replace hr := ite_neg hr hg1206
 refine WL.skip .r rfl rfl ?_
 refine WL.skip .r rfl rfl ?_
 refine WL.skip .r rfl rfl ?_
 refine WL.skip .r rfl rfl ?_
 refine WL.skip .r rfl rfl ?_
 refine WL.pick .r rfl rfl rfl rfl rfl ?_
 refine WL.nil ?_
 refine Ex.thn_norm ?_
 exact ⟨[(0, .pointer (some ⟨p0, 0, none⟩)), (3, .pointer (some ⟨n0, 0, none⟩)), (4, .pointer (some ⟨b39, el40, none⟩)), (155, .bool true)], (Fr.le_cons rfl (Fr.le_cons rfl (Fr.le_cons rfl (Fr.le_cons rfl Fr.le_nil)))), true, S265, F256, rfl, hS293, (hE258.up (by omega)), ho296, fo261, ho297, fo269, h259, h298, h299, h300, ap270, ap271, ap272, ap273, ap274, ap275, ap276, ap277, ap278, hr⟩
 }
 {
 replace hr := ite_pos hr hg1206
 refine WL.move .r rfl rfl rfl rfl ?_
 refine WL.nilCheck .r rfl rfl rfl rfl ?_
 refine WL.fieldAddr .r rfl rfl rfl Try.underlying42 rfl info3 rfl rfl ?_
 refine WL.load1 .r rfl rfl rfl Try.underlying3 rfl rfl hrow1195 ((win_get (m := 4) hwin1196 (show (4 : Nat) < 9 by decide)).trans rfl) ?_
 refine WL.bin .r rfl rfl rfl rfl rfl rfl ?_
 refine WL.pick .r rfl rfl rfl rfl rfl ?_
 refine WL.nil ?_
 refine Ex.thn_norm ?_
 exact ⟨[(0, .pointer (some ⟨p0, 0, none⟩)), (3, .pointer (some ⟨n0, 0, none⟩)), (4, .pointer (some ⟨b39, el40, none⟩)), (155, .bool (!decide (x1192.Role = 2)))], (Fr.le_cons rfl (Fr.le_cons rfl (Fr.le_cons rfl (Fr.le_cons rfl Fr.le_nil)))), (!decide (x1192.Role = 2)), S265, F256, rfl, hS293, (hE258.up (by omega)), ho296, fo261, ho297, fo269, h259, h298, h299, h300, ap270, ap271, ap272, ap273, ap274, ap275, ap276, ap277, ap278, hr⟩
 }
 }
 {
 intro _ n874 H875 hI
 obtain ⟨x879, S884, F876, rfl, hS877, hE878, ho881, fo882, ho887, fo888, h880, h883, h885, h886, ap889, ap890, ap891, ap892, ap893, ap894, ap895, ap896, ap897, hr⟩ := hI
 have lt898 := hS877.lt ho881
 have lt899 := hS877.lt ho887
 have hlen874 := hE878.le
 have hlon874 := hS877.lo
 unfold f_impl_Cluster_arrive_J4 at hr
 refine W.cond rfl (fun hc901 => ?_) (fun hc901 => ?_)
 {
 replace hr := iteB_pos hr hc901
 with_reducible refine W.ret ?_
 with_reducible refine Ex.thn_ret ?_
 with_reducible refine Ex.blk_ret ?_
 obtain rfl := Option.some.inj hr
 exact ⟨.inr rfl, _, .nil, ⟨F876, S884, a7, cap8, a11, cap12, (hE878.up (by omega)), hS877, ho887, rfl, h883, hl264, h885, h886, ap890, ap892, ap895, ap893, ap896, ap897⟩⟩
 }
 {
 replace hr := iteB_neg hr hc901
 with_reducible refine W.skip ?_
 refine Ex.thn_norm ?_
 with_reducible refine W.seq ?_
 with_reducible refine W.region ?_
 refine WL.fieldAddr .nil rfl rfl rfl Try.underlying85 rfl info4 rfl rfl ?_
 refine WL.load1 .nil rfl rfl rfl Try.underlying4 rfl rfl ho881 rfl ?_
 refine WL.nil ?_
 refine Ex.thn_norm ?_
 refine W.cond rfl (fun hc902 => ?_) (fun hc902 => ?_)
 {
 replace hr := iteB_pos hr hc902
 with_reducible refine W.seq ?_
 refine W.regionI (fun H => H n0 = some (.row 1 [.int .i64 x18.Kind, .int .i64 x18.From, .int .i64 x18.To, .int .i64 x18.Term, .int .i64 x18.A, .int .i64 x18.B, .int .i64 x18.C, .bool x18.Ok, .slice a19 x18.Log.length cap20])) [0, 1, 2, 3, 4, 5, 6, 7, 8, 9, 10, 11, 12, 13, 14, 15, 16, 17, 18, 19, 20, 21, 22, 23, 24, 25, 26, 27, 28, 29, 30, 31, 32, 33, 34, 35, 36, 37, 38] [(false, false, false), (false, false, false), (false, false, false), (false, false, false), (false, false, false), (false, false, false), (false, false, false), (false, false, false), (false, false, false), (false, false, false), (false, true, false), (false, true, false), (false, false, false), (false, false, false), (false, false, false), (false, false, false), (false, false, false), (false, false, false), (false, false, false), (false, false, false), (false, false, false), (false, false, false), (false, false, false), (false, false, false), (false, false, false), (false, false, false), (false, false, false), (false, false, false), (false, false, false), (false, false, false), (false, false, false), (false, true, false), (false, true, false), (false, true, false), (false, true, false), (false, false, false), (true, false, false), (false, false, false), (true, false, true)] false rfl (by kernel_rfl) (by kernel_rfl) (by (conv => lhs; simp only [List.map_cons, List.map_nil, List.getD_cons_zero, List.getD_cons_succ]) <;> rfl) ?_
 refine WLI.op (fun h => by cases h) ?_
 refine WL.move .r rfl rfl rfl rfl ?_
 with_reducible refine WL.nil ⟨rfl, ?_⟩
 refine WLI.op (fun h => by cases h) ?_
 refine WL.nilCheck .r rfl rfl rfl rfl ?_
 with_reducible refine WL.nil ⟨rfl, ?_⟩
 refine WLI.op (fun h => by cases h) ?_
 refine WL.fieldAddr .r rfl rfl rfl Try.underlying42 rfl info31 rfl rfl ?_
 with_reducible refine WL.nil ⟨rfl, ?_⟩
 refine WLI.op (fun h => by cases h) ?_
 obtain ⟨x904, hx904, hr⟩ := bnd_some hr
 obtain ⟨c905, ecs906, hrow907, hwin908, hb909⟩ := OD.get h883 hp41 hx904
 obtain ⟨a910, cap911, a912, cap913, a914, cap915, a916, cap917, rfl⟩ := GPeer.ofB hb909
 obtain ⟨S918, hs919, hs920, hs921, h922, h923⟩ := GPeer.open_Match h883 hp41 hx904 hrow907 hwin908 (List.forall_mem_nil _)
 refine WL.load1 .r rfl rfl rfl Try.underlying31 rfl rfl hrow907 ((win_get (m := 8) hwin908 (show (8 : Nat) < 9 by decide)).trans rfl) ?_
 with_reducible refine WL.nil ⟨rfl, ?_⟩
 refine WLI.op (fun h => by cases h) ?_
 refine WL.fieldAddr .r rfl rfl rfl Try.underlying85 rfl info3 rfl rfl ?_
 with_reducible refine WL.nil ⟨rfl, ?_⟩
 refine WLI.op (fun h => by cases h) ?_
 refine WL.load1 .r rfl rfl rfl Try.underlying3 rfl rfl ho881 rfl ?_
 with_reducible refine WL.nil ⟨rfl, ?_⟩
 refine WLI.op (fun h => by cases h) ?_
 refine WL.move .r rfl rfl rfl rfl ?_
 with_reducible refine WL.nil ⟨rfl, ?_⟩
 refine WLI.op (fun h => by cases h) ?_
 refine WL.nilCheck .r rfl rfl rfl rfl ?_
 with_reducible refine WL.nil ⟨rfl, ?_⟩
 refine WLI.op (fun h => by cases h) ?_
 refine WL.fieldAddr .r rfl rfl rfl Try.underlying42 rfl info31 rfl rfl ?_
 with_reducible refine WL.nil ⟨rfl, ?_⟩
 refine WLI.op (fun h => by cases h) ?_
 obtain ⟨S925, hs926, hs927, hs928, h929, h930⟩ := GPeer.open_Next h923 hp41 hx904 hrow907 hwin908 (List.forall_mem_cons.2 ⟨fun h => absurd (show (8 : Nat) = 7 from h.2) (by decide), List.forall_mem_nil _⟩)
 refine WL.load1 .r rfl rfl rfl Try.underlying31 rfl rfl hrow907 ((win_get (m := 7) hwin908 (show (7 : Nat) < 9 by decide)).trans rfl) ?_
 with_reducible refine WL.nil ⟨rfl, ?_⟩
 refine WLI.late (v := .pointer (some ⟨n0, 1, none⟩)) (fun h => by cases h) rfl rfl (fun H2 hI2 => Step.fieldAddr' rfl Try.underlying85 rfl info3 rfl rfl rfl) ?_
 refine WLI.late (v := .int .i64 x18.From) (fun h => by cases h) rfl rfl (fun H2 hI2 => Step.load1' rfl Try.underlying3 rfl rfl (hI2.elim (fun e => by rw [e]; exact ho881) (fun h => h)) rfl) ?_
 refine WLI.op (fun h => by cases h) ?_
 refine WL.move .r rfl rfl rfl rfl ?_
 with_reducible refine WL.nil ⟨rfl, ?_⟩
 refine WLI.op (fun h => by cases h) ?_
 refine WL.nilCheck .r rfl rfl rfl rfl ?_
 with_reducible refine WL.nil ⟨rfl, ?_⟩
 refine WLI.op (fun h => by cases h) ?_
 refine WL.fieldAddr .r rfl rfl rfl Try.underlying42 rfl info31 rfl rfl ?_
 with_reducible refine WL.nil ⟨rfl, ?_⟩
 refine WLI.op (fun h => by cases h) ?_
 refine WL.load1 .r rfl rfl rfl Try.underlying31 rfl rfl hrow907 ((win_get (m := 8) hwin908 (show (8 : Nat) < 9 by decide)).trans rfl) ?_
 with_reducible refine WL.nil ⟨rfl, ?_⟩
 refine WLI.op (fun h => by cases h) ?_
 refine WL.fieldAddr .r rfl rfl rfl Try.underlying85 rfl info3 rfl rfl ?_
 with_reducible refine WL.nil ⟨rfl, ?_⟩
 refine WLI.op (fun h => by cases h) ?_
 refine WL.load1 .r rfl rfl rfl Try.underlying3 rfl rfl ho881 rfl ?_
 with_reducible refine WL.nil ⟨rfl, ?_⟩
 refine WLI.op (fun h => by cases h) ?_
 obtain ⟨x932, hx932, hr⟩ := bnd_some hr
 refine GL.indexO .r rfl rfl rfl Try.underlying31 info3 rfl rfl h922 rfl hx932 (fun b933 kp934 c935 ecs936 hid940 hrow937 hwin938 hR939 hup941 => ?_)
 have hcs : _ = ([.int .i64 x932] : List Value) := hR939
 subst hcs
 with_reducible refine WL.nil ⟨rfl, ?_⟩
 refine WLI.op (fun h => by cases h) ?_
 refine WL.load1 .r rfl rfl rfl Try.underlying3 rfl rfl hrow937 ((win_get0 hwin938 (show (0 : Nat) < 1 by decide)).trans rfl) ?_
 with_reducible refine WL.nil ⟨rfl, ?_⟩
 refine WLI.op (fun h => by cases h) ?_
 refine WL.fieldAddr .r rfl rfl rfl Try.underlying85 rfl info3 rfl rfl ?_
 with_reducible refine WL.nil ⟨rfl, ?_⟩
 refine WLI.op (fun h => by cases h) ?_
 refine WL.load1 .r rfl rfl rfl Try.underlying3 rfl rfl ho881 rfl ?_
 with_reducible refine WL.nil ⟨rfl, ?_⟩
 refine WLI.op (fun h => by cases h) ?_
 refine WL.max2 .r rfl rfl rfl rfl rfl ?_
 with_reducible refine WL.nil ⟨rfl, ?_⟩
 refine WLI.op (fun h => by cases h) ?_
 refine WL.move .r rfl rfl rfl rfl ?_
 with_reducible refine WL.nil ⟨rfl, ?_⟩
 refine WLI.op (fun h => by cases h) ?_
 refine WL.nilCheck .r rfl rfl rfl rfl ?_
 with_reducible refine WL.nil ⟨rfl, ?_⟩
 refine WLI.op (fun h => by cases h) ?_
 refine WL.fieldAddr .r rfl rfl rfl Try.underlying42 rfl info31 rfl rfl ?_
 with_reducible refine WL.nil ⟨rfl, ?_⟩
 refine WLI.op (fun h => by cases h) ?_
 refine WL.load1 .r rfl rfl rfl Try.underlying31 rfl rfl hrow907 ((win_get (m := 7) hwin908 (show (7 : Nat) < 9 by decide)).trans rfl) ?_
 with_reducible refine WL.nil ⟨rfl, ?_⟩
 refine WLI.op (fun h => by cases h) ?_
 refine WL.fieldAddr .r rfl rfl rfl Try.underlying85 rfl info3 rfl rfl ?_
 with_reducible refine WL.nil ⟨rfl, ?_⟩
 refine WLI.op (fun h => by cases h) ?_
 refine WL.load1 .r rfl rfl rfl Try.underlying3 rfl rfl ho881 rfl ?_
 with_reducible refine WL.nil ⟨rfl, ?_⟩
 refine WLI.op (fun h => by cases h) ?_
 obtain ⟨x942, hx942, hr⟩ := bnd_some hr
 refine GL.indexO .r rfl rfl rfl Try.underlying31 info3 rfl rfl h929 rfl hx942 (fun b943 kp944 c945 ecs946 hid950 hrow947 hwin948 hR949 hup951 => ?_)
 have hcs : _ = ([.int .i64 x942] : List Value) := hR949
 subst hcs
 with_reducible refine WL.nil ⟨rfl, ?_⟩
 refine WLI.op (fun h => by cases h) ?_
 refine WL.load1 .r rfl rfl rfl Try.underlying3 rfl rfl hrow947 ((win_get0 hwin948 (show (0 : Nat) < 1 by decide)).trans rfl) ?_
 with_reducible refine WL.nil ⟨rfl, ?_⟩
 refine WLI.late (v := .pointer (some ⟨n0, 4, none⟩)) (fun h => by cases h) rfl rfl (fun H2 hI2 => Step.fieldAddr' rfl Try.underlying85 rfl info3 rfl rfl rfl) ?_
 refine WLI.late (v := .int .i64 x18.A) (fun h => by cases h) rfl rfl (fun H2 hI2 => Step.load1' rfl Try.underlying3 rfl rfl (hI2.elim (fun e => by rw [e]; exact ho881) (fun h => h)) rfl) ?_
 obtain ⟨hc952, hr⟩ := chk_some hr
 refine WLI.late (v := .int .i64 (x18.A + 1)) (fun h => by cases h) rfl rfl (fun H2 hI2 => Step.addI rfl rfl rfl hc952.1 hc952.2) ?_
 refine WLI.late (v := .int .i64 (if (x18.A + 1) > x942 then (x18.A + 1) else x942)) (fun h => by cases h) rfl rfl (fun H2 hI2 => Step.max2' rfl rfl rfl) ?_
 refine WLI.op (fun h => by cases h) ?_
 obtain ⟨x953, hx953, hr⟩ := bnd_some hr
 refine GL.indexO .r rfl rfl rfl Try.underlying31 info3 rfl rfl h922 rfl hx953 (fun b954 kp955 c956 ecs957 hid961 hrow958 hwin959 hR960 hup962 => ?_)
 have hcs : _ = ([.int .i64 x953] : List Value) := hR960
 subst hcs
 with_reducible refine WL.nil ⟨rfl, ?_⟩
 refine WLI.op (fun h => by cases h) ?_
 refine GL.store hS877 .w (vc := [.int .i64 (if x18.A > x932 then x18.A else x932)]) rfl rfl rfl info3 rfl rfl rfl rfl hrow958 (OW.fnone h922 hid961) (by first | exact win_fit hwin959 (Nat.le_of_ble_eq_true rfl) rfl (Nat.le_of_ble_eq_true rfl) | exact win_fit2 hwin959 (Nat.le_of_ble_eq_true rfl) rfl (Nat.le_of_ble_eq_true rfl) | exact win_fit3 hwin959 (Nat.le_of_ble_eq_true rfl) rfl (Nat.le_of_ble_eq_true rfl)) (OW.id_lt h922 hid961).1 (one1 rfl) rfl (fun H963 hS964 ho965 hk966 => ?_)
 have h967 := hup962 0 [.int .i64 (if x18.A > x932 then x18.A else x932)] ((if x18.A > x932 then x18.A else x932) : Int) H963 (Nat.le_of_ble_eq_true rfl) rfl ho965
 have ho968 := (hk966 n0 (fun hj => (Ap.sub0 hs920 ap889) (by rw [hj]; exact hid961))).trans ho881
 have ho969 := (hk966 p0 (fun hj => (Ap.sub0 hs920 ap890) (by rw [hj]; exact hid961))).trans ho887
 have h970 := OD.keep h930 (Nat.le_refl _) (fun i hi => hk966 i (fun hj => (Ap.sub hs926 (Ap.sym hs921)) i hi (by rw [hj]; exact hid961)))
 have h971 := OW.keep h885 (Nat.le_refl _) (fun i hi => hk966 i (fun hj => (Ap.sym (Ap.sub hs920 (Ap.sym ap893))) i hi (by rw [hj]; exact hid961)))
 have h972 := OW.keep h886 (Nat.le_refl _) (fun i hi => hk966 i (fun hj => (Ap.sym (Ap.sub hs920 (Ap.sym ap896))) i hi (by rw [hj]; exact hid961)))
 have h973 := OW.keep h929 (Nat.le_refl _) (fun i hi => hk966 i (fun hj => (Ap.sub hs927 (Ap.sym hs921)) i hi (by rw [hj]; exact hid961)))
 have hl974 : x904.Match.length = (setI x904.Match x18.From (if x18.A > x932 then x18.A else x932)).length := (setI_length _ _ _).symm
 with_reducible refine WL.nil ⟨rfl, ?_⟩
 refine WLI.op (fun h => by cases h) ?_
 obtain ⟨x975, hx975, hr⟩ := bnd_some hr
 refine GL.indexO .r rfl rfl rfl Try.underlying31 info3 rfl rfl h973 rfl hx975 (fun b976 kp977 c978 ecs979 hid983 hrow980 hwin981 hR982 hup984 => ?_)
 have hcs : _ = ([.int .i64 x975] : List Value) := hR982
 subst hcs
 with_reducible refine WL.nil ⟨rfl, ?_⟩
 refine WLI.op (fun _ => ho968) ?_
 refine GL.store hS964 .w (vc := [.int .i64 (if (x18.A + 1) > x942 then (x18.A + 1) else x942)]) rfl rfl rfl info3 rfl rfl rfl rfl hrow980 (OW.fnone h973 hid983) (by first | exact win_fit hwin981 (Nat.le_of_ble_eq_true rfl) rfl (Nat.le_of_ble_eq_true rfl) | exact win_fit2 hwin981 (Nat.le_of_ble_eq_true rfl) rfl (Nat.le_of_ble_eq_true rfl) | exact win_fit3 hwin981 (Nat.le_of_ble_eq_true rfl) rfl (Nat.le_of_ble_eq_true rfl)) (OW.id_lt h973 hid983).1 (one1 rfl) rfl (fun H985 hS986 ho987 hk988 => ?_)
 have h989 := hup984 0 [.int .i64 (if (x18.A + 1) > x942 then (x18.A + 1) else x942)] ((if (x18.A + 1) > x942 then (x18.A + 1) else x942) : Int) H985 (Nat.le_of_ble_eq_true rfl) rfl ho987
 have ho990 := (hk988 n0 (fun hj => (Ap.sub0 hs927 (Ap.sub0 hs919 ap889)) (by rw [hj]; exact hid983))).trans ho968
 have ho991 := (hk988 p0 (fun hj => (Ap.sub0 hs927 (Ap.sub0 hs919 ap890)) (by rw [hj]; exact hid983))).trans ho969
 have h992 := OD.keep h970 (Nat.le_refl _) (fun i hi => hk988 i (fun hj => (Ap.sym hs928) i hi (by rw [hj]; exact hid983)))
 have h993 := OW.keep h971 (Nat.le_refl _) (fun i hi => hk988 i (fun hj => (Ap.sym (Ap.sub hs927 (Ap.sub hs919 (Ap.sym ap893)))) i hi (by rw [hj]; exact hid983)))
 have h994 := OW.keep h972 (Nat.le_refl _) (fun i hi => hk988 i (fun hj => (Ap.sym (Ap.sub hs927 (Ap.sub hs919 (Ap.sym ap896)))) i hi (by rw [hj]; exact hid983)))
 have h995 := OW.keep h967 (Nat.le_refl _) (fun i hi => hk988 i (fun hj => (Ap.sym (Ap.sub hs927 (Ap.sym hs921))) i hi (by rw [hj]; exact hid983)))
 have hl996 : x904.Next.length = (setI x904.Next x18.From (if (x18.A + 1) > x942 then (x18.A + 1) else x942)).length := (setI_length _ _ _).symm
 with_reducible refine WL.nil ⟨rfl, ?_⟩
 refine WLI.nil (fun h => by cases h) ?_
 refine Ex.thn_norm ?_
 with_reducible refine W.region ?_
 refine WL.move .nil rfl rfl rfl rfl ?_
 refine WL.fieldAddr .nil rfl rfl rfl Try.underlying85 rfl info3 rfl rfl ?_
 refine WL.load1 .nil rfl rfl rfl Try.underlying3 rfl rfl ho990 rfl ?_
 obtain ⟨S997, hs998, h999⟩ := GPeer.close_Next h992 hx904 hl996 h989
 have hl1000 : x1.Peers.length = (setI xs262 x18.To ({ Up := x904.Up, Term := x904.Term, Vote := x904.Vote, Commit := x904.Commit, Role := x904.Role, Log := x904.Log, Votes := x904.Votes, Next := (setI x904.Next x18.From (if (x18.A + 1) > x942 then (x18.A + 1) else x942)), Match := x904.Match } : GPeer)).length := hl264.trans (by rw [setI_length])
 have hx1001 : idx (setI xs262 x18.To ({ Up := x904.Up, Term := x904.Term, Vote := x904.Vote, Commit := x904.Commit, Role := x904.Role, Log := x904.Log, Votes := x904.Votes, Next := (setI x904.Next x18.From (if (x18.A + 1) > x942 then (x18.A + 1) else x942)), Match := x904.Match } : GPeer)) x18.To = some ({ Up := x904.Up, Term := x904.Term, Vote := x904.Vote, Commit := x904.Commit, Role := x904.Role, Log := x904.Log, Votes := x904.Votes, Next := (setI x904.Next x18.From (if (x18.A + 1) > x942 then (x18.A + 1) else x942)), Match := x904.Match } : GPeer) := idx_setI_same hx904
 obtain ⟨S1002, hs1003, h1004⟩ := GPeer.close_Match h999 hx1001 hl974 h995
 have ap1005 : ¬ S1002 n0 := Ap.or0 hs1003 (Ap.or0 hs998 (Ap.sub0 hs926 (Ap.sub0 hs919 ap889)) (Ap.sub0 hs927 (Ap.sub0 hs919 ap889))) (Ap.sub0 hs920 ap889)
 have ap1006 : ¬ S1002 p0 := Ap.or0 hs1003 (Ap.or0 hs998 (Ap.sub0 hs926 (Ap.sub0 hs919 ap890)) (Ap.sub0 hs927 (Ap.sub0 hs919 ap890))) (Ap.sub0 hs920 ap890)
 have ap1007 : ∀ b, S1002 b → idOf (.slice a7 x1.Net.length cap8) ≠ some b := Ap.or hs1003 (Ap.or hs998 (Ap.sub hs926 (Ap.sub hs919 (Ap.sym ap893))) (Ap.sub hs927 (Ap.sub hs919 (Ap.sym ap893)))) (Ap.sub hs920 (Ap.sym ap893))
 have ap1008 : ∀ b, S1002 b → idOf (.slice a11 x1.Chosen.length cap12) ≠ some b := Ap.or hs1003 (Ap.or hs998 (Ap.sub hs926 (Ap.sub hs919 (Ap.sym ap896))) (Ap.sub hs927 (Ap.sub hs919 (Ap.sym ap896)))) (Ap.sub hs920 (Ap.sym ap896))
 rw [setI_setI] at h1004
 have hl1009 : x1.Peers.length = (setI xs262 x18.To ({ Up := x904.Up, Term := x904.Term, Vote := x904.Vote, Commit := x904.Commit, Role := x904.Role, Log := x904.Log, Votes := x904.Votes, Next := (setI x904.Next x18.From (if (x18.A + 1) > x942 then (x18.A + 1) else x942)), Match := (setI x904.Match x18.From (if x18.A > x932 then x18.A else x932)) } : GPeer)).length := hl1000.trans (by rw [setI_length, setI_length])
 have hx1010 : idx (setI xs262 x18.To ({ Up := x904.Up, Term := x904.Term, Vote := x904.Vote, Commit := x904.Commit, Role := x904.Role, Log := x904.Log, Votes := x904.Votes, Next := (setI x904.Next x18.From (if (x18.A + 1) > x942 then (x18.A + 1) else x942)), Match := (setI x904.Match x18.From (if x18.A > x932 then x18.A else x932)) } : GPeer)) x18.To = some ({ Up := x904.Up, Term := x904.Term, Vote := x904.Vote, Commit := x904.Commit, Role := x904.Role, Log := x904.Log, Votes := x904.Votes, Next := (setI x904.Next x18.From (if (x18.A + 1) > x942 then (x18.A + 1) else x942)), Match := (setI x904.Match x18.From (if x18.A > x932 then x18.A else x932)) } : GPeer) := idx_setI_same hx904
 obtain ⟨x1011, hx1011, hr⟩ := bnd_some hr
 refine GL.callIO g .nil (fun i => (F876 i).isSome = true ∨ i = p0 ∨ S1002 i ∨ idOf (.slice a7 x1.Net.length cap8) = some i ∨ idOf (.slice a11 x1.Chosen.length cap12) = some i) rfl rfl rfl rfl rfl rfl Try.func60 rfl rfl (Nat.le_refl _) hS986.lo (f_impl_Cluster_commit_k (x1 := ({ Peers := (setI xs262 x18.To ({ Up := x904.Up, Term := x904.Term, Vote := x904.Vote, Commit := x904.Commit, Role := x904.Role, Log := x904.Log, Votes := x904.Votes, Next := (setI x904.Next x18.From (if (x18.A + 1) > x942 then (x18.A + 1) else x942)), Match := (setI x904.Match x18.From (if x18.A > x932 then x18.A else x932)) } : GPeer)), Net := x1.Net, Chosen := x1.Chosen, Conflict := x1.Conflict } : GCluster)) g (St.vis hS986 (fun i hi => .inl hi)) (by rw [← hl1009]; exact vis_get ho991 (.inr (.inl rfl))) fo888 lo17 (OD.head hl1009 (OD.vis h1004 (fun i hi => (.inr (.inr (.inl hi)))))) (OW.vis h993 (fun i hi => (.inr (.inr (.inr (.inl hi)))))) (OW.vis h994 (fun i hi => (.inr (.inr (.inr (.inr (hi))))))) ap1006 ap892 (Ap.sym ap1007) ap895 (Ap.sym ap1008) ap897 hx1011) (fun v n1012 H1013 H1014 hn1015 hp1016 hle1017 hnew1018 hk1019 hd1020 => ?_)
 obtain ⟨F1031, S1022, a1024, cap1025, a1027, cap1028, hX1032, hS1030, ho1033, rfl, h1021, hl1023, h1026, h1029, ap1034, ap1035, ap1036, ap1037, ap1038, ap1039⟩ := hp1016
 have hS1040 : St lo n1012 H1013 _ := ⟨hS1030.lo, fun i hi => (hnew1018 i (by omega)).trans (hS1030.hb i hi), hS1030.fh.trans hle1017⟩
 have ho1041 := (hk1019 _ (by have := lt898; omega) (fun hs => by
      rcases hs with h | h | h | h | h
      · rw [fo882] at h; cases h
      · omega
      · exact ap1005 h
      · exact ap891 h
      · exact ap894 h)).trans ho990
 have fo1042 := (hX1032.eq _ (by have := lt898; omega)).trans fo882
 have fo1043 := (hX1032.eq _ (by have := lt899; omega)).trans fo888
 have hE1044 := (hE878.up (n' := n874) (by omega)).trans hX1032
 have ho1045 := hle1017 _ _ ho1033
 have h1046 := OD.le h1021 hle1017
 have hl1047 : x1.Peers.length = x1011.Peers.length := hl1009.trans hl1023
 rw [← hl1009] at h1046
 have h1049 := OW.le h1026 hle1017
 have h1051 := OW.le h1029 hle1017
 rw [← hl1009] at ho1045
 have ap1052 : ¬ S1022 n0 := fun hj => (OD.after h1021 hd1020 hj).elim (fun h => by have := lt898; omega) (fun hs => by
      rcases hs with h | h | h | h | h
      · rw [fo882] at h; cases h
      · omega
      · exact ap1005 h
      · exact ap891 h
      · exact ap894 h)
 have ap1053 : idOf (.slice a1024 x1011.Net.length cap1025) ≠ some n0 := fun hj => (OW.after h1026 hd1020 hj).elim (fun h => by have := lt898; omega) (fun hs => by
      rcases hs with h | h | h | h | h
      · rw [fo882] at h; cases h
      · omega
      · exact ap1005 h
      · exact ap891 h
      · exact ap894 h)
 have ap1054 : idOf (.slice a1027 x1011.Chosen.length cap1028) ≠ some n0 := fun hj => (OW.after h1029 hd1020 hj).elim (fun h => by have := lt898; omega) (fun hs => by
      rcases hs with h | h | h | h | h
      · rw [fo882] at h; cases h
      · omega
      · exact ap1005 h
      · exact ap891 h
      · exact ap894 h)
 have hlon1012 := hS1040.lo
 have lt1055 := hS1040.lt ho1041
 have lt1056 := hS1040.lt ho1045
 refine WL.nil ?_
 with_reducible refine Ex.blk_norm ?_
 obtain rfl := Option.some.inj hr
 exact ⟨.inl rfl, _, .nil, ⟨F1031, S1022, a1024, cap1025, a1027, cap1028, (hE1044.up (by omega)), hS1040, ho1045, rfl, h1046, hl1047, h1049, h1051, ap1034, ap1035, ap1036, ap1037, ap1038, ap1039⟩⟩
 }
 {
 replace hr := iteB_neg hr hc902
 with_reducible refine W.seq ?_
 refine W.regionD [0, 1, 2, 3, 4, 5, 6, 7, 8, 9, 10, 11] [false, false, false, false, false, false, false, false, false, false, false, false] rfl rfl (by kernel_rfl) (by kernel_rfl) (by (conv => lhs; simp only [List.map_cons, List.map_nil, List.getD_cons_zero, List.getD_cons_succ]) <;> rfl) ?_
 refine WL.fieldAddr .r rfl rfl rfl Try.underlying85 rfl info3 rfl rfl ?_
 refine WL.load1 .r rfl rfl rfl Try.underlying3 rfl rfl ho881 rfl ?_
 obtain ⟨hc1057, hr⟩ := chk_some hr
 refine WL.addI .r rfl rfl rfl rfl rfl hc1057.1 hc1057.2 ?_
 refine WL.move .r rfl rfl rfl rfl ?_
 refine WL.nilCheck .r rfl rfl rfl rfl ?_
 refine WL.fieldAddr .r rfl rfl rfl Try.underlying42 rfl info31 rfl rfl ?_
 obtain ⟨x1058, hx1058, hr⟩ := bnd_some hr
 obtain ⟨c1059, ecs1060, hrow1061, hwin1062, hb1063⟩ := OD.get h883 hp41 hx1058
 obtain ⟨a1064, cap1065, a1066, cap1067, a1068, cap1069, a1070, cap1071, rfl⟩ := GPeer.ofB hb1063
 obtain ⟨S1072, hs1073, hs1074, hs1075, h1076, h1077⟩ := GPeer.open_Next h883 hp41 hx1058 hrow1061 hwin1062 (List.forall_mem_nil _)
 refine WL.load1 .r rfl rfl rfl Try.underlying31 rfl rfl hrow1061 ((win_get (m := 7) hwin1062 (show (7 : Nat) < 9 by decide)).trans rfl) ?_
 refine WL.fieldAddr .r rfl rfl rfl Try.underlying85 rfl info3 rfl rfl ?_
 refine WL.load1 .r rfl rfl rfl Try.underlying3 rfl rfl ho881 rfl ?_
 obtain ⟨x1079, hx1079, hr⟩ := bnd_some hr
 refine GL.indexO .r rfl rfl rfl Try.underlying31 info3 rfl rfl h1076 rfl hx1079 (fun b1080 kp1081 c1082 ecs1083 hid1087 hrow1084 hwin1085 hR1086 hup1088 => ?_)
 have hcs : _ = ([.int .i64 x1079] : List Value) := hR1086
 subst hcs
 refine WL.load1 .r rfl rfl rfl Try.underlying3 rfl rfl hrow1084 ((win_get0 hwin1085 (show (0 : Nat) < 1 by decide)).trans rfl) ?_
 refine WL.bin .r rfl rfl rfl rfl rfl rfl ?_
 refine WL.nil ?_
 refine Ex.thn_norm ?_
 refine W.condD rfl (fun hc1089 => ?_) (fun hc1089 => ?_)
 {
 replace hr := ite_pos hr hc1089
 with_reducible refine W.seq ?_
 refine W.regionD [0, 1, 2, 3, 4, 5, 6, 7, 8, 9, 10, 11, 12, 13, 14, 15, 16, 17, 18, 19, 20] [false, false, false, false, false, false, false, false, false, false, false, false, false, false, false, false, false, false, false, false, true] rfl rfl (by kernel_rfl) (by kernel_rfl) (by (conv => lhs; simp only [List.map_cons, List.map_nil, List.getD_cons_zero, List.getD_cons_succ]) <;> rfl) ?_
 refine WL.move .r rfl rfl rfl rfl ?_
 refine WL.nilCheck .r rfl rfl rfl rfl ?_
 refine WL.fieldAddr .r rfl rfl rfl Try.underlying42 rfl info31 rfl rfl ?_
 refine WL.load1 .r rfl rfl rfl Try.underlying31 rfl rfl hrow1061 ((win_get (m := 7) hwin1062 (show (7 : Nat) < 9 by decide)).trans rfl) ?_
 refine WL.fieldAddr .r rfl rfl rfl Try.underlying85 rfl info3 rfl rfl ?_
 refine WL.load1 .r rfl rfl rfl Try.underlying3 rfl rfl ho881 rfl ?_
 refine WL.move .r rfl rfl rfl rfl ?_
 refine WL.nilCheck .r rfl rfl rfl rfl ?_
 refine WL.fieldAddr .r rfl rfl rfl Try.underlying42 rfl info31 rfl rfl ?_
 obtain ⟨S1090, hs1091, hs1092, hs1093, h1094, h1095⟩ := GPeer.open_Match h1077 hp41 hx1058 hrow1061 hwin1062 (List.forall_mem_cons.2 ⟨fun h => absurd (show (7 : Nat) = 8 from h.2) (by decide), List.forall_mem_nil _⟩)
 refine WL.load1 .r rfl rfl rfl Try.underlying31 rfl rfl hrow1061 ((win_get (m := 8) hwin1062 (show (8 : Nat) < 9 by decide)).trans rfl) ?_
 refine WL.fieldAddr .r rfl rfl rfl Try.underlying85 rfl info3 rfl rfl ?_
 refine WL.load1 .r rfl rfl rfl Try.underlying3 rfl rfl ho881 rfl ?_
 obtain ⟨x1097, hx1097, hr⟩ := bnd_some hr
 refine GL.indexO .r rfl rfl rfl Try.underlying31 info3 rfl rfl h1094 rfl hx1097 (fun b1098 kp1099 c1100 ecs1101 hid1105 hrow1102 hwin1103 hR1104 hup1106 => ?_)
 have hcs : _ = ([.int .i64 x1097] : List Value) := hR1104
 subst hcs
 refine WL.load1 .r rfl rfl rfl Try.underlying3 rfl rfl hrow1102 ((win_get0 hwin1103 (show (0 : Nat) < 1 by decide)).trans rfl) ?_
 obtain ⟨hc1107, hr⟩ := chk_some hr
 refine WL.addI .r rfl rfl rfl rfl rfl hc1107.1 hc1107.2 ?_
 refine WL.fieldAddr .r rfl rfl rfl Try.underlying85 rfl info3 rfl rfl ?_
 refine WL.load1 .r rfl rfl rfl Try.underlying3 rfl rfl ho881 rfl ?_
 obtain ⟨hc1108, hr⟩ := chk_some hr
 refine WL.addI .r rfl rfl rfl rfl rfl hc1108.1 hc1108.2 ?_
 refine WL.max2 .r rfl rfl rfl rfl rfl ?_
 obtain ⟨x1109, hx1109, hr⟩ := bnd_some hr
 refine GL.indexO .r rfl rfl rfl Try.underlying31 info3 rfl rfl h1076 rfl hx1109 (fun b1110 kp1111 c1112 ecs1113 hid1117 hrow1114 hwin1115 hR1116 hup1118 => ?_)
 have hcs : _ = ([.int .i64 x1109] : List Value) := hR1116
 subst hcs
 refine GL.store hS877 .w (vc := [.int .i64 (if (x18.A + 1) > (x1097 + 1) then (x18.A + 1) else (x1097 + 1))]) rfl rfl rfl info3 rfl rfl rfl rfl hrow1114 (OW.fnone h1076 hid1117) (by first | exact win_fit hwin1115 (Nat.le_of_ble_eq_true rfl) rfl (Nat.le_of_ble_eq_true rfl) | exact win_fit2 hwin1115 (Nat.le_of_ble_eq_true rfl) rfl (Nat.le_of_ble_eq_true rfl) | exact win_fit3 hwin1115 (Nat.le_of_ble_eq_true rfl) rfl (Nat.le_of_ble_eq_true rfl)) (OW.id_lt h1076 hid1117).1 (one1 rfl) rfl (fun H1119 hS1120 ho1121 hk1122 => ?_)
 have h1123 := hup1118 0 [.int .i64 (if (x18.A + 1) > (x1097 + 1) then (x18.A + 1) else (x1097 + 1))] ((if (x18.A + 1) > (x1097 + 1) then (x18.A + 1) else (x1097 + 1)) : Int) H1119 (Nat.le_of_ble_eq_true rfl) rfl ho1121
 have ho1124 := (hk1122 n0 (fun hj => (Ap.sub0 hs1074 ap889) (by rw [hj]; exact hid1117))).trans ho881
 have ho1125 := (hk1122 p0 (fun hj => (Ap.sub0 hs1074 ap890) (by rw [hj]; exact hid1117))).trans ho887
 have h1126 := OD.keep h1095 (Nat.le_refl _) (fun i hi => hk1122 i (fun hj => (Ap.sub hs1091 (Ap.sym hs1075)) i hi (by rw [hj]; exact hid1117)))
 have h1127 := OW.keep h885 (Nat.le_refl _) (fun i hi => hk1122 i (fun hj => (Ap.sym (Ap.sub hs1074 (Ap.sym ap893))) i hi (by rw [hj]; exact hid1117)))
 have h1128 := OW.keep h886 (Nat.le_refl _) (fun i hi => hk1122 i (fun hj => (Ap.sym (Ap.sub hs1074 (Ap.sym ap896))) i hi (by rw [hj]; exact hid1117)))
 have h1129 := OW.keep h1094 (Nat.le_refl _) (fun i hi => hk1122 i (fun hj => (Ap.sub hs1092 (Ap.sym hs1075)) i hi (by rw [hj]; exact hid1117)))
 have hl1130 : x1058.Next.length = (setI x1058.Next x18.From (if (x18.A + 1) > (x1097 + 1) then (x18.A + 1) else (x1097 + 1))).length := (setI_length _ _ _).symm
 refine WL.nil ?_
 refine Ex.thn_norm ?_
 with_reducible refine W.region ?_
 refine WL.move .nil rfl rfl rfl rfl ?_
 refine WL.fieldAddr .nil rfl rfl rfl Try.underlying85 rfl info3 rfl rfl ?_
 refine WL.load1 .nil rfl rfl rfl Try.underlying3 rfl rfl ho1124 rfl ?_
 refine WL.fieldAddr .nil rfl rfl rfl Try.underlying85 rfl info3 rfl rfl ?_
 refine WL.load1 .nil rfl rfl rfl Try.underlying3 rfl rfl ho1124 rfl ?_
 obtain ⟨S1131, hs1132, h1133⟩ := GPeer.close0_Match h1126 hx1058 h1129
 obtain ⟨S1134, hs1135, h1136⟩ := GPeer.close_Next h1133 hx1058 hl1130 h1123
 have ap1137 : ¬ S1134 n0 := Ap.or0 hs1135 (Ap.or0 hs1132 (Ap.sub0 hs1091 (Ap.sub0 hs1073 ap889)) (Ap.sub0 hs1092 (Ap.sub0 hs1073 ap889))) (Ap.sub0 hs1074 ap889)
 have ap1138 : ¬ S1134 p0 := Ap.or0 hs1135 (Ap.or0 hs1132 (Ap.sub0 hs1091 (Ap.sub0 hs1073 ap890)) (Ap.sub0 hs1092 (Ap.sub0 hs1073 ap890))) (Ap.sub0 hs1074 ap890)
 have ap1139 : ∀ b, S1134 b → idOf (.slice a7 x1.Net.length cap8) ≠ some b := Ap.or hs1135 (Ap.or hs1132 (Ap.sub hs1091 (Ap.sub hs1073 (Ap.sym ap893))) (Ap.sub hs1092 (Ap.sub hs1073 (Ap.sym ap893)))) (Ap.sub hs1074 (Ap.sym ap893))
 have ap1140 : ∀ b, S1134 b → idOf (.slice a11 x1.Chosen.length cap12) ≠ some b := Ap.or hs1135 (Ap.or hs1132 (Ap.sub hs1091 (Ap.sub hs1073 (Ap.sym ap896))) (Ap.sub hs1092 (Ap.sub hs1073 (Ap.sym ap896)))) (Ap.sub hs1074 (Ap.sym ap896))
 have hl1141 : x1.Peers.length = (setI xs262 x18.To ({ Up := x1058.Up, Term := x1058.Term, Vote := x1058.Vote, Commit := x1058.Commit, Role := x1058.Role, Log := x1058.Log, Votes := x1058.Votes, Next := (setI x1058.Next x18.From (if (x18.A + 1) > (x1097 + 1) then (x18.A + 1) else (x1097 + 1))), Match := x1058.Match } : GPeer)).length := hl264.trans (by rw [setI_length])
 have hx1142 : idx (setI xs262 x18.To ({ Up := x1058.Up, Term := x1058.Term, Vote := x1058.Vote, Commit := x1058.Commit, Role := x1058.Role, Log := x1058.Log, Votes := x1058.Votes, Next := (setI x1058.Next x18.From (if (x18.A + 1) > (x1097 + 1) then (x18.A + 1) else (x1097 + 1))), Match := x1058.Match } : GPeer)) x18.To = some ({ Up := x1058.Up, Term := x1058.Term, Vote := x1058.Vote, Commit := x1058.Commit, Role := x1058.Role, Log := x1058.Log, Votes := x1058.Votes, Next := (setI x1058.Next x18.From (if (x18.A + 1) > (x1097 + 1) then (x18.A + 1) else (x1097 + 1))), Match := x1058.Match } : GPeer) := idx_setI_same hx1058
 obtain ⟨x1143, hx1143, hr⟩ := bnd_some hr
 refine GL.callIO g .nil (fun i => (F876 i).isSome = true ∨ i = p0 ∨ S1134 i ∨ idOf (.slice a7 x1.Net.length cap8) = some i ∨ idOf (.slice a11 x1.Chosen.length cap12) = some i) rfl rfl rfl rfl rfl rfl Try.func89 rfl rfl (Nat.le_refl _) hS1120.lo (f_impl_Cluster_records_k (x1 := ({ Peers := (setI xs262 x18.To ({ Up := x1058.Up, Term := x1058.Term, Vote := x1058.Vote, Commit := x1058.Commit, Role := x1058.Role, Log := x1058.Log, Votes := x1058.Votes, Next := (setI x1058.Next x18.From (if (x18.A + 1) > (x1097 + 1) then (x18.A + 1) else (x1097 + 1))), Match := x1058.Match } : GPeer)), Net := x1.Net, Chosen := x1.Chosen, Conflict := x1.Conflict } : GCluster)) g (St.vis hS1120 (fun i hi => .inl hi)) (by rw [← hl1141]; exact vis_get ho1125 (.inr (.inl rfl))) fo888 lo17 (OD.head hl1141 (OD.vis h1136 (fun i hi => (.inr (.inr (.inl hi)))))) (OW.vis h1127 (fun i hi => (.inr (.inr (.inr (.inl hi)))))) (OW.vis h1128 (fun i hi => (.inr (.inr (.inr (.inr (hi))))))) ap1138 ap892 (Ap.sym ap1139) ap895 (Ap.sym ap1140) ap897 hx1143) (fun v n1144 H1145 H1146 hn1147 hp1148 hle1149 hnew1150 hk1151 hd1152 => ?_)
 obtain ⟨F1163, S1154, a1156, cap1157, a1159, cap1160, hX1164, hS1162, ho1165, rfl, h1153, hl1155, h1158, h1161, ap1166, ap1167, ap1168, ap1169, ap1170, ap1171⟩ := hp1148
 have hS1172 : St lo n1144 H1145 _ := ⟨hS1162.lo, fun i hi => (hnew1150 i (by omega)).trans (hS1162.hb i hi), hS1162.fh.trans hle1149⟩
 have ho1173 := (hk1151 _ (by have := lt898; omega) (fun hs => by
      rcases hs with h | h | h | h | h
      · rw [fo882] at h; cases h
      · omega
      · exact ap1137 h
      · exact ap891 h
      · exact ap894 h)).trans ho1124
 have fo1174 := (hX1164.eq _ (by have := lt898; omega)).trans fo882
 have fo1175 := (hX1164.eq _ (by have := lt899; omega)).trans fo888
 have hE1176 := (hE878.up (n' := n874) (by omega)).trans hX1164
 have ho1177 := hle1149 _ _ ho1165
 have h1178 := OD.le h1153 hle1149
 have hl1179 : x1.Peers.length = x1143.Peers.length := hl1141.trans hl1155
 rw [← hl1141] at h1178
 have h1181 := OW.le h1158 hle1149
 have h1183 := OW.le h1161 hle1149
 rw [← hl1141] at ho1177
 have ap1184 : ¬ S1154 n0 := fun hj => (OD.after h1153 hd1152 hj).elim (fun h => by have := lt898; omega) (fun hs => by
      rcases hs with h | h | h | h | h
      · rw [fo882] at h; cases h
      · omega
      · exact ap1137 h
      · exact ap891 h
      · exact ap894 h)
 have ap1185 : idOf (.slice a1156 x1143.Net.length cap1157) ≠ some n0 := fun hj => (OW.after h1158 hd1152 hj).elim (fun h => by have := lt898; omega) (fun hs => by
      rcases hs with h | h | h | h | h
      · rw [fo882] at h; cases h
      · omega
      · exact ap1137 h
      · exact ap891 h
      · exact ap894 h)
 have ap1186 : idOf (.slice a1159 x1143.Chosen.length cap1160) ≠ some n0 := fun hj => (OW.after h1161 hd1152 hj).elim (fun h => by have := lt898; omega) (fun hs => by
      rcases hs with h | h | h | h | h
      · rw [fo882] at h; cases h
      · omega
      · exact ap1137 h
      · exact ap891 h
      · exact ap894 h)
 have hlon1144 := hS1172.lo
 have lt1187 := hS1172.lt ho1173
 have lt1188 := hS1172.lt ho1177
 refine WL.nil ?_
 with_reducible refine Ex.blk_norm ?_
 obtain rfl := Option.some.inj hr
 exact ⟨.inl rfl, _, .nil, ⟨F1163, S1154, a1156, cap1157, a1159, cap1160, (hE1176.up (by omega)), hS1172, ho1177, rfl, h1178, hl1179, h1181, h1183, ap1166, ap1167, ap1168, ap1169, ap1170, ap1171⟩⟩
 }
 {
 replace hr := ite_neg hr hc1089
 with_reducible refine W.skip ?_
 with_reducible refine Ex.blk_norm ?_
 obtain ⟨S1189, hs1190, h1191⟩ := GPeer.close0_Next h1077 hx1058 h1076
 obtain rfl := Option.some.inj hr
 exact ⟨.inl rfl, _, .nil, ⟨F876, S1189, a7, cap8, a11, cap12, (hE878.up (by omega)), hS877, ho887, rfl, h1191, hl264, h885, h886, (Ap.or0 hs1190 (Ap.sub0 hs1073 ap890) (Ap.sub0 hs1074 ap890)), ap892, ap895, (Ap.sym (Ap.or hs1190 (Ap.sub hs1073 (Ap.sym ap893)) (Ap.sub hs1074 (Ap.sym ap893)))), (Ap.sym (Ap.or hs1190 (Ap.sub hs1073 (Ap.sym ap896)) (Ap.sub hs1074 (Ap.sym ap896)))), ap897⟩⟩
 }
 }
 }
 }
 }
 {
 replace hr := ite_neg hr hc858
 with_reducible refine W.skip ?_
 with_reducible refine Ex.blk_norm ?_
 obtain rfl := Option.some.inj hr
 exact ⟨.inl rfl, _, .nil, ⟨F256, S265, a7, cap8, a11, cap12, (hE258.up (by omega)), hS293, ho297, rfl, h298, hl264, h299, h300, ap271, ap273, ap276, ap274, ap277, ap278⟩⟩
 }
 }
 }
 }
 }
 }
end Go.Proofs.YtlpcdcpcfeaecaaAb
