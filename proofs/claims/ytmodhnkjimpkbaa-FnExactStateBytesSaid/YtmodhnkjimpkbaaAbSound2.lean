import Derived.Test.YtmodhnkjimpkbaaAbSound
set_option linter.all false
namespace Go.Proofs.YtmodhnkjimpkbaaAb
open Go
section
variable {P : Program} {β : Nat} {Δ : Prims}
theorem Sim.drawn {ρ : Rho} {H : Heap} {w : World} (h : Sim β ρ H w) (d : Nat) : Sim β ρ H { w with drawn := d } := (Ok.same (lo := 0) (n := 0) (w' := { w with drawn := d }) h rfl ⟨rfl, rfl, rfl⟩).sim
theorem dstsOK_mono {a b : Nat} (hab : a ≤ b) : ∀ c, dstsOK a c = true → dstsOK b c = true := by
  intro c
  induction c with
  | region id ops d =>
    simp only [dstsOK, List.all_eq_true]
    intro h o ho
    have := h o ho
    simp only [opDst, Bool.and_eq_true] at this ⊢
    refine ⟨?_, this.2⟩
    cases hd : o.dst with
    | none => rfl
    | some d => have h3 := this.1; rw [hd] at h3; exact decide_eq_true (Nat.lt_of_lt_of_le (of_decide_eq_true h3) hab)
  | seq x y ih1 ih2 => simp only [dstsOK, Bool.and_eq_true]; exact fun h => ⟨ih1 h.1, ih2 h.2⟩
  | cond o x y ih1 ih2 => simp only [dstsOK, Bool.and_eq_true]; exact fun h => ⟨ih1 h.1, ih2 h.2⟩
  | block id c ih => exact ih
  | loop c ih => exact ih
  | _ => intro _; rfl
theorem func_inv {ρ : Rho} {f : Fn} {a b : Array Value} {v : Value} (h : VR ρ (.func f a b) v) : ∃ a' b', v = .func f a' b' := by cases h <;> exact ⟨_, _, rfl⟩
theorem iface_inv {ρ : Rho} {t : TypeId} {u v : Value} (h : VR ρ (.iface t u) v) : ∃ u', v = .iface t u' := by cases h <;> exact ⟨_, rfl⟩
theorem bool_inv {ρ : Rho} {b : Bool} {v : Value} (h : VR ρ (.bool b) v) : v = .bool b := by cases h; rfl
theorem ops_rel {ρ : Rho} {fr : Fr} {a : Act} {o : Oper} {all : Array Oper} (hf : FrR ρ fr a.tmps) (ho : opDst a.tmps.size o = true) : ∀ x ∈ o.op.operands, ∀ u, fr.eval x = some u → VR ρ u (a.eval x) :=
  eval_rel (ops := all) (frr_reads hf) (fun v hv => opDst_gr ho hv)
theorem Exit.then_rel {ρ : Rho} {e : Ex} {e' : Exit} (h : ExR ρ e e') (hne : e ≠ .norm) {K : Act → World → Prop} {Q : Exit → Act → World → Prop} {a : Act} {w : World} (hQ : Q e' a w) : Exit.then K Q e' a w := by
  cases h with
  | norm => exact absurd rfl hne
  | ret => exact hQ
  | ex id => exact hQ
  | pan v v' h => exact hQ
theorem panic_run {o : Oper} {x : Operand} {t : TypeId} {v : Value} {ev : Operand → Value} {w : World} (ho : o.op = .panic x) (hx : ev x = .iface t v) : (execOp ev o).run P w = .halt (.panic (.iface t v)) w := by
  obtain ⟨dst, op, ty, pos, after, guard⟩ := o
  simp only at ho; subst ho
  simp [execOp, hx]
  rfl
theorem cond_eval {ρ : Rho} {fr : Fr} {a : Act} (hf : FrR ρ fr a.tmps) {c : Operand} {t : Bool} (hc : fr.eval c = some (.bool t)) : a.eval c = .bool t := by
  cases c with
  | tmp x => exact bool_inv (hf x _ hc).2
  | const v => simp only [Fr.eval] at hc; exact Option.some.inj hc
  | global g => cases hc
  | func f => cases Option.some.inj hc
theorem mixed_frames {ops : Array Oper} {r : List Nat} {fr : Nat → Fr} {v : Nat → Value} (hfr : ∀ k, k < ops.size → fr (k + 1) = (fr k).put (ops.getD (r.getD k 0) default).dst (v k)) :
    ∀ m, m ≤ ops.size → ∀ t u, (fr m).get t = some u → (∃ k, k < m ∧ (ops.getD (r.getD k 0) default).dst = some t ∧ v k = u) ∨ ((∀ k, k < m → (ops.getD (r.getD k 0) default).dst ≠ some t) ∧ (fr 0).get t = some u) := by
  intro m
  induction m with
  | zero => intro _ t u h; exact .inr ⟨fun k hk => by omega, h⟩
  | succ m ih =>
    intro hm t u h
    rw [hfr m (by omega)] at h
    cases hd : (ops.getD (r.getD m 0) default).dst with
    | none =>
      rw [hd] at h
      rcases ih (by omega) t u h with ⟨k, k1, k2, k3⟩ | ⟨h1, h2⟩
      · exact .inl ⟨k, by omega, k2, k3⟩
      · refine .inr ⟨fun k hk => ?_, h2⟩
        by_cases e : k = m
        · subst e; rw [hd]; simp
        · exact h1 k (by omega)
    | some d =>
      rw [hd] at h
      simp only [Fr.put, Fr.get] at h
      by_cases e : d = t
      · rw [if_pos e] at h
        exact .inl ⟨m, by omega, by rw [hd, e], Option.some.inj h⟩
      · rw [if_neg e] at h
        rcases ih (by omega) t u h with ⟨k, k1, k2, k3⟩ | ⟨h1, h2⟩
        · exact .inl ⟨k, by omega, k2, k3⟩
        · refine .inr ⟨fun k hk => ?_, h2⟩
          by_cases e' : k = m
          · subst e'; rw [hd]; simp [e]
          · exact h1 k (by omega)
theorem D.sound (hm : P.follows .mixedOrders = true) (hΔ : ∀ lo f args n H e n' H', Δ lo f args n H e n' H' → β ≤ lo → lo ≤ n → CallSnd P β lo f args n H e n' H') (hΔa : ∀ lo f args n H e n' H', Δ lo f args n H e n' H' → lo ≤ n → AbsOk lo n H n' H')
    {j : J} (h : D P Δ j) : j.Snd P β := by
  induction h with
  | step h => exact fun h1 h2 ρ a w e1 e2 _ e4 => step_snd h h1 h2 ρ a w e1 e2 e4
  | stepM h => exact fun h1 h2 ρ a w e1 e2 _ e4 => stepM_snd h h1 h2 ρ a w e1 e2 e4
  | callF ho hx ha hfn hname hbody h1 h2 h ih =>
    intro hβ hlo ρ a w hev hs hn hr K Q hK
    have hF := hev _ (by rw [ho]; simp [Op.operands, Call.operands]) _ hx
    obtain ⟨c, c', hF'⟩ := func_inv hF
    rw [hF'] at hF
    obtain ⟨ca1, ca2⟩ := call_args (evc := a.eval) (fun y hy => hev y (by rw [ho]; simp [Op.operands, Call.operands, hy])) ha hF
    unfold Oper.wp
    rw [call_run ho hF' hfn hname hbody w, Oper.upon_enter]
    refine ih (by omega) h2 ρ w _ ca1 ca2 hs hn hr _ fun ρ' e' w' he hok => ?_
    cases he with
    | ret v v' hv => exact hK ρ' v' w' hv (hok.lower h1)
  | nil =>
    intro hβ hlo ρ a w hf hs hn hr hd Q hQ
    exact hQ ρ .normal a w .norm (.refl hs) hf rfl rfl
  | skip hw h ih =>
    intro hβ hlo ρ a w hf hs hn hr hd Q hQ
    unfold wpList
    rw [wanted_run hf hw, if_neg (by simp)]
    have hd0 := hd _ (List.mem_cons_self ..)
    refine ih hβ hlo ρ _ w (hf.put (fun d e => opDst_lt hd0 e) (gr_undef.2 ρ)) hs hn hr (fun o ho => by rw [Act.put_size]; exact hd o (List.mem_cons_of_mem _ ho)) Q fun ρ' e' a' w' h1 h2 h3 h4 h5 => ?_
    exact hQ ρ' e' a' w' h1 h2 h3 (by rw [h4, Act.put_size]) (by rw [h5, Act.put_def])
  | cons hw h1 h ih1 ih =>
    intro hβ hlo ρ a w hf hs hn hr hd Q hQ
    unfold wpList
    rw [wanted_run hf hw, if_pos rfl]
    have hd0 := hd _ (List.mem_cons_self ..)
    have ab1 := (h1.abs hΔa) hlo
    have ab2 := (h.abs hΔa) (Nat.le_trans hlo ab1.1)
    refine .inl (ih1 hβ hlo ρ a w (ops_rel (all := #[]) hf hd0) hs hn (fun i h1 h2 => hr i h1 (by have := ab2.1; omega)) _ Q fun ρ1 v1 w1 hv hok => ?_)
    refine ih hβ (Nat.le_trans hlo ab1.1) ρ1 _ w1 ((hf.mono (hok.rho fun i h1 h2 => hr i h1 (by have := ab2.1; omega))).put (fun d e => opDst_lt hd0 e) hv) hok.sim (ab1.2.2.1 hn)
      (fun i h1 h2 => by rw [hok.far i h1]; exact hr i (by have := ab1.1; omega) h2) (fun o ho => by rw [Act.put_size]; exact hd o (List.mem_cons_of_mem _ ho)) Q fun ρ' e' a' w' h1 h2 h3 h4 h5 => ?_
    exact hQ ρ' e' a' w' h1 (hok.trans hlo h2) h3 (by rw [h4, Act.put_size]) (by rw [h5, Act.put_def])
  | pan hw ho hx =>
    intro hβ hlo ρ a w hf hs hn hr hd Q hQ
    unfold wpList
    rw [wanted_run hf hw, if_pos rfl]
    have hd0 := hd _ (List.mem_cons_self ..)
    have hv := ops_rel (all := #[]) hf hd0 _ (by rw [ho]; simp [Op.operands]) _ hx
    obtain ⟨u', hv'⟩ := iface_inv hv
    rw [hv'] at hv
    refine .inl ?_
    unfold Oper.wp
    rw [panic_run ho hv', Oper.upon_panic]
    exact hQ ρ _ a w (.pan _ _ hv) (.refl hs) hf rfl rfl
  | panCall hw ho hx ha hfn hname hbody h1 h2 h ih =>
    intro hβ hlo ρ a w hf hs hn hr hd Q hQ
    unfold wpList
    rw [wanted_run hf hw, if_pos rfl]
    have hd0 := hd _ (List.mem_cons_self ..)
    have hev := ops_rel (all := #[]) hf hd0
    have hF := hev _ (by rw [ho]; simp [Op.operands, Call.operands]) _ hx
    obtain ⟨c, c', hF'⟩ := func_inv hF
    rw [hF'] at hF
    obtain ⟨ca1, ca2⟩ := call_args (evc := a.eval) (fun y hy => hev y (by rw [ho]; simp [Op.operands, Call.operands, hy])) ha hF
    refine .inl ?_
    unfold Oper.wp
    rw [call_run ho hF' hfn hname hbody w, Oper.upon_enter]
    refine ih (by omega) h2 ρ w _ ca1 ca2 hs hn hr _ fun ρ' e' w' he hok => ?_
    cases he with
    | pan _ v' hv => exact hQ ρ' _ a w' (.pan _ v' hv) (hok.lower h1) (hf.mono (hok.rho hr)) rfl rfl
  | cskip =>
    intro hβ hlo ρ a w hf hs hn hr hd Q hQ
    exact wp_skip (hQ ρ .normal a w .norm (.refl hs) hf rfl rfl)
  | ret =>
    intro hβ hlo ρ a w hf hs hn hr hd Q hQ
    exact wp_ret (hQ ρ .ret a w .ret (.refl hs) hf rfl rfl)
  | exit =>
    intro hβ hlo ρ a w hf hs hn hr hd Q hQ
    exact wp_exit (hQ ρ _ a w (.ex _) (.refl hs) hf rfl rfl)
  | seqN h1 h2 i1 i2 =>
    intro hβ hlo ρ a w hf hs hn hr hd Q hQ
    simp only [dstsOK, Bool.and_eq_true] at hd
    have ab1 := (h1.abs hΔa) hlo
    have ab2 := (h2.abs hΔa) (Nat.le_trans hlo ab1.1)
    have hr1 : ∀ i, _ ≤ i → i < _ → ρ i = none := fun i h1 h2 => hr i h1 (Nat.lt_of_lt_of_le h2 ab2.1)
    refine wp_seq (Wq.wp (i1 hβ hlo ρ a w hf hs hn hr1 hd.1 _ fun ρ1 e1 a1 w1 he hok hf1 hsz hdf => ?_))
    cases he
    refine Wq.wp (i2 hβ (Nat.le_trans hlo ab1.1) ρ1 a1 w1 hf1 hok.sim (ab1.2.2.1 hn) (fun i h1 h2 => by rw [hok.far i h1]; exact hr i (by have := ab1.1; omega) h2) (by rw [hsz]; exact hd.2) Q fun ρ' e' a' w' h1 h2 h3 h4 h5 => ?_)
    exact hQ ρ' e' a' w' h1 (hok.trans hlo h2) h3 (by rw [h4, hsz]) (by rw [h5, hdf])
  | seqE h1 he ih =>
    intro hβ hlo ρ a w hf hs hn hr hd Q hQ
    simp only [dstsOK, Bool.and_eq_true] at hd
    exact wp_seq (Wq.wp (ih hβ hlo ρ a w hf hs hn hr hd.1 _ fun ρ1 e1 a1 w1 he1 hok hf1 hsz hdf => Exit.then_rel he1 he (hQ ρ1 e1 a1 w1 he1 hok hf1 hsz hdf)))
  | cond hc h ih =>
    intro hβ hlo ρ a w hf hs hn hr hd Q hQ
    simp only [dstsOK, Bool.and_eq_true] at hd
    have hc' := cond_eval hf hc
    refine wp_cond hc' (Wq.wp (ih hβ hlo ρ a w hf hs hn hr (by split; exact hd.1; exact hd.2) Q hQ))
  | block h ih =>
    intro hβ hlo ρ a w hf hs hn hr hd Q hQ
    exact wp_block (Wq.wp (ih hβ hlo ρ a w hf hs hn hr hd _ fun ρ1 e1 a1 w1 he hok hf1 hsz hdf => Ex.out_rel he fun e'' he'' => hQ ρ1 e'' a1 w1 he'' hok hf1 hsz hdf))
  | loopN h1 h2 i1 i2 =>
    intro hβ hlo ρ a w hf hs hn hr hd Q hQ
    simp only [dstsOK] at hd
    have ab1 := (h1.abs hΔa) hlo
    have ab2 := (h2.abs hΔa) (Nat.le_trans hlo ab1.1)
    have hr1 : ∀ i, _ ≤ i → i < _ → ρ i = none := fun i h1 h2 => hr i h1 (Nat.lt_of_lt_of_le h2 ab2.1)
    refine loopWp_round (Wq.wp (i1 hβ hlo ρ a w hf hs hn hr1 hd _ fun ρ1 e1 a1 w1 he hok hf1 hsz hdf => ?_))
    cases he
    refine i2 hβ (Nat.le_trans hlo ab1.1) ρ1 a1 w1 hf1 hok.sim (ab1.2.2.1 hn) (fun i h1 h2 => by rw [hok.far i h1]; exact hr i (by have := ab1.1; omega) h2) (by rw [hsz]; exact hd) Q fun ρ' e' a' w' h1 h2 h3 h4 h5 => ?_
    exact hQ ρ' e' a' w' h1 (hok.trans hlo h2) h3 (by rw [h4, hsz]) (by rw [h5, hdf])
  | loopE h1 he ih =>
    intro hβ hlo ρ a w hf hs hn hr hd Q hQ
    simp only [dstsOK] at hd
    exact loopWp_round (Wq.wp (ih hβ hlo ρ a w hf hs hn hr hd _ fun ρ1 e1 a1 w1 he1 hok hf1 hsz hdf => Exit.then_rel he1 he (hQ ρ1 e1 a1 w1 he1 hok hf1 hsz hdf)))
  | region h ih =>
    intro hβ hlo ρ a w hf hs hn hr hd Q hQ
    simp only [dstsOK, List.all_eq_true] at hd
    exact wp_region_list (ih hβ hlo ρ a w hf hs hn hr hd Q hQ)
  | @regionD lo id ops r isW wk fr n H v hchk hw hfr hskip hrun hlate ih =>
    intro hβ hlo ρ a w hf hs hn hr hd Q hQ
    simp only [dstsOK, List.all_eq_true] at hd
    have hF := regFacts hchk
    have hdst : ∀ k, k < ops.size → opDst a.tmps.size (ops.getD (r.getD k 0) default) = true := fun k hk => by
      have h1 := hF.into k hk
      refine hd _ ?_
      rw [Array.getD_eq_getD_getElem?, Array.getElem?_eq_getElem h1]
      exact Array.getElem_mem_toList _
    have hmono : ∀ k, k ≤ ops.size → n 0 ≤ n k ∧ lo ≤ n k := by
      intro k
      induction k with
      | zero => intro _; exact ⟨Nat.le_refl _, hlo⟩
      | succ k ihk =>
        intro hk
        obtain ⟨h1, h2⟩ := ihk (by omega)
        have : n k ≤ n (k + 1) := by
          cases hwk : wk k with
          | false => rw [(hskip k (by omega) hwk).2.1]; exact Nat.le_refl _
          | true =>
            have := (hrun k (by omega) hwk).abs hΔa
            simp only [J.abs] at this
            exact (this (by cases isW k <;> simp <;> omega)).1
        omega
    have g : Reg P β lo ops r isW wk fr n H v := by
      refine ⟨hF, hw, hfr, hskip, fun k hk hwk => ?_, fun k c h1 h2 h3 h4 h5 h6 => ?_, fun k hk => ?_, hlo, hn⟩
      · have := hmono k (by omega)
        exact ih k hk hwk (by cases isW k <;> simp <;> omega) (by cases isW k <;> simp <;> omega)
      · have := hmono k (by omega)
        rcases hlate k c h1 h2 h3 h4 h5 h6 with h | h
        · exact step_snd h (by omega) (Nat.le_refl _)
        · exact stepM_snd h (by omega) (Nat.le_refl _)
      · cases hwk : wk k with
        | false => obtain ⟨_, e1, e2⟩ := hskip k hk hwk; rw [e1, e2]; exact .refl _ _ _
        | true =>
          have := hmono k (by omega)
          exact (hrun k hk hwk).abs hΔa (by cases isW k <;> simp <;> omega)
    refine wp_region_any hm ?_
    obtain ⟨c, c1, c2, c3, c4⟩ := next_writer isW ops.size _ 0 rfl (by omega)
    have hun : ∀ k, (Array.replicate ops.size false).getD k false = false := fun k => by
      rw [Array.getD_eq_getD_getElem?, Array.getElem?_replicate]; split <;> rfl
    have I0 : Inv β lo ops r isW fr n H v ρ a { w with drawn := w.drawn + 1 } (Array.replicate ops.size false) a { w with drawn := w.drawn + 1 } ρ c := by
      refine ⟨by simp, fun j o ho hl => (by rw [hun] at hl; cases hl), c2, c3, fun _ => hun _, fun k hk hwk => (by rw [c4 k (by omega) hk] at hwk; cases hwk), fun k hk hl => (by rw [hun] at hl; cases hl),
        fun k hk hl => (by rw [hun] at hl; cases hl), fun t u _ hu => hf t u hu, fun i s h1 h2 h3 => (by rw [hr i h1 h2] at h3; cases h3), fun _ _ => rfl, ?_, fun _ _ _ => rfl, fun _ _ => rfl,
        fun i s h1 h2 h3 => (by rw [hr i h1 h2] at h3; cases h3), Nat.le_refl _, rfl, rfl, .refl _⟩
      refine (hs.drawn _).of_same fun i s o hr' ho' => ?_
      have hi : i < n 0 := by
        rcases Nat.lt_or_ge i (n 0) with h | h
        · exact h
        · exfalso
          rcases Nat.lt_or_ge i (n ops.size) with h' | h'
          · rw [hr i h h'] at hr'; cases hr'
          · have := g.mono c ops.size c2 (Nat.le_refl _)
            rw [g.hb c c2 i (by omega)] at ho'; cases ho'
      rw [← g.quiet 0 c c1 c2 c4 i hi]; exact ho'
    refine g.wpAny hdst (fun listed a' w' ρ' I hall => ?_) _ _ _ _ _ c I0 (by
      unfold unl
      rw [List.filter_eq_self.2 (fun k _ => by rw [hun]; rfl), List.length_range])
    have hle : ρ.le ρ' := fun i s h => by
      rcases Nat.lt_or_ge i (n 0) with h1 | h1
      · rw [I.old i h1]; exact h
      · rcases Nat.lt_or_ge i (n ops.size) with h2 | h2
        · rw [hr i h1 h2] at h; cases h
        · rw [I.far i h2]; exact h
    have habs := (g.abs ops.size (Nat.le_refl _)).1
    refine hQ ρ' .normal a' w' .norm ⟨I.sim, habs.1, I.old, I.far, habs.2.1, I.size, I.keep, I.fresh, habs.2.2.2, I.out⟩ (fun t u hu => ?_) I.tsize I.defers
    rcases mixed_frames hfr ops.size (Nat.le_refl _) t u hu with ⟨k, k1, k2, k3⟩ | ⟨h1, h2⟩
    · rw [← k3]; exact I.s1 k k1 (hall k k1) t k2
    · obtain ⟨h3, h4⟩ := I.s2 t u (fun k hk _ => h1 k hk) h2
      exact ⟨h3, h4⟩
  | weak hle h ih =>
    intro hβ hlo ρ a w hf hs hn hr hd Q hQ
    exact ih hβ hlo ρ a w (fun t u hu => hf t u (hle t u hu)) hs hn hr hd Q hQ
  | drop h hle ih =>
    intro hβ hlo ρ a w hf hs hn hr hd Q hQ
    exact ih hβ hlo ρ a w hf hs hn hr hd Q fun ρ' e' a' w' h1 h2 h3 h4 h5 => hQ ρ' e' a' w' h1 h2 (fun t u hu => h3 t u (hle t u hu)) h4 h5
  | weakL hle h ih =>
    intro hβ hlo ρ a w hf hs hn hr hd Q hQ
    exact ih hβ hlo ρ a w (fun t u hu => hf t u (hle t u hu)) hs hn hr hd Q hQ
  | @body lo f args n n' H H' fn c e fr' vs hfn hb hd h he hres ih =>
    intro hβ hlo ρ w cargs hsz hargs hs hn hr R hR
    refine calls_of_wp hfn hb (Wq.wp (ih hβ hlo ρ _ w (fun t u hu => ?_) hs hn hr ?_ _ fun ρ1 e1 a1 w1 he1 hok hf1 hsz1 hdf => ?_))
    · obtain ⟨_, h2⟩ := argFr_get args 0 t u hu
      obtain ⟨u', h3, h4⟩ := hargs _ u h2
      have ht := (Array.getElem?_eq_some_iff.1 h3).1
      refine ⟨by simp; omega, ?_⟩
      have : (cargs ++ Array.replicate (fn.ntmps - cargs.size) undef)[t]? = some u' := by rw [Array.getElem?_append, if_pos (by simpa using ht)]; simpa using h3
      rw [Array.getD_eq_getD_getElem?, this]; exact h4
    · refine dstsOK_mono ?_ _ hd
      simp; omega
    · obtain ⟨v', r1, r2⟩ := results_run (P := P) hok.sim hf1 hres
      rcases he with rfl | rfl
      · cases he1; exact ⟨hdf, v', r1, hR ρ1 _ w1 (.ret _ _ r2) hok⟩
      · cases he1; exact ⟨hdf, v', r1, hR ρ1 _ w1 (.ret _ _ r2) hok⟩
  | @bodyPan lo f args n n' H H' fn c v fr' hfn hb hd h ih =>
    intro hβ hlo ρ w cargs hsz hargs hs hn hr R hR
    refine calls_of_wp hfn hb (Wq.wp (ih hβ hlo ρ _ w (fun t u hu => ?_) hs hn hr ?_ _ fun ρ1 e1 a1 w1 he1 hok hf1 hsz1 hdf => ?_))
    · obtain ⟨_, h2⟩ := argFr_get args 0 t u hu
      obtain ⟨u', h3, h4⟩ := hargs _ u h2
      have ht := (Array.getElem?_eq_some_iff.1 h3).1
      refine ⟨by simp; omega, ?_⟩
      have : (cargs ++ Array.replicate (fn.ntmps - cargs.size) undef)[t]? = some u' := by rw [Array.getElem?_append, if_pos (by simpa using ht)]; simpa using h3
      rw [Array.getD_eq_getD_getElem?, this]; exact h4
    · refine dstsOK_mono ?_ _ hd
      simp; omega
    · cases he1 with
      | pan v v' hv => exact ⟨hdf, hR ρ1 _ w1 (.pan _ _ hv) hok⟩
  | prim h => exact fun h1 h2 => hΔ _ _ _ _ _ _ _ _ h h1 h2
end
end Go.Proofs.YtmodhnkjimpkbaaAb
