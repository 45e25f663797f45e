/- Texts for VSectionsP. -/
import Derived.Test.YtdeledeopippfaaVx18
namespace Go.Proofs.Ytdeledeopippfaa
open Go Go.RowKit
set_option linter.unusedVariables false
set_option linter.unusedSimpArgs false
section
variable {E : Env} {P : Program} {nt : Nat} {X : Ctx} {f : Fr} {H : Hp} {ty : TypeId} {Q : Exit → Fr → Hp → Prop}
theorem any_drawH {l : List Oper} (M : List Nat) {H0 : Hp} (hold : hidM M 0 (H.take H0.length) = hidM M 0 H0) (hok : drawOkS l.toArray = true) (h : DR P nt X l.toArray M H0 Q l.length [] f H) (a : Act) (w : World) (s : St nt X f H a w) :
    wpAny P .any l.toArray (Lift nt X Q) l.toArray.size (Array.replicate l.toArray.size false) a { w with drawn := w.drawn + 1 } := by
  obtain ⟨blk0, FP0, s⟩ := s
  have uniq : ∀ {i j : Nat} {o p : Oper} {d : Nat}, l.toArray[i]? = some o → l.toArray[j]? = some p → o.dst = some d → p.dst = some d → i = j := by
    intro i j o p d hi hj ho hp
    by_cases e : i = j
    · exact e
    · exact absurd ho ((drawOkS_spec hok hi).2.2.2 j p d hj e hp).1
  have key : ∀ (fuel n : Nat) (D : List Nat) (f : Fr) (H' : Hp) (blk : Nat → BC) (FP : Nat → List Nat) (listed : Array Bool) (a b : Act) (w : World), Mid P nt X l.toArray M H0 Q n D f H' blk FP listed a b w → left l.toArray.size listed ≤ fuel →
      wpAny P .any l.toArray (Lift nt X Q) fuel listed a w := by
    have done : ∀ (n : Nat) (D : List Nat) (f : Fr) (H' : Hp) (blk : Nat → BC) (FP : Nat → List Nat) (listed : Array Bool) (a b : Act) (w : World), Mid P nt X l.toArray M H0 Q n D f H' blk FP listed a b w → Region.ready .any l.toArray listed = [] → Lift nt X Q .normal a w := by
      intro n D f H' blk FP listed a b w m hr
      have all : ∀ (n i : Nat), i < n → i < l.toArray.size → listed.getD i false = true := by
        intro n
        induction n with
        | zero => intro i hi; omega
        | succ n ih =>
          intro i hi hil
          rcases Nat.lt_or_ge i n with hlt | hge
          · exact ih i hlt hil
          · have hin : i = n := by omega
            subst hin
            cases hu : listed.getD i false with
            | true => rfl
            | false =>
              exfalso
              have hmem : i ∈ Region.ready .any l.toArray listed := by
                refine mem_ready.2 ⟨?_, _, Array.getElem?_eq_getElem hil, fun e he hb => ?_⟩
                · have : i < listed.size := by rw [m.size]; exact hil
                  simp [this] at hu ⊢
                  exact hu
                · have hlt := (drawOkS_spec hok (Array.getElem?_eq_getElem hil)).2.2.1 e he hb
                  exact ih e.on hlt (by omega)
              rw [hr] at hmem
              cases hmem
      have hn : n = 0 := by
        apply Classical.byContradiction
        intro hne
        obtain ⟨i, hi, hD⟩ := full m.nodup m.low (by have := m.len; omega)
        exact hD (m.inD i (all (i + 1) i (by omega) hi))
      subst hn
      refine ⟨f, H', m.dr, blk, FP, m.st.act m.defers m.tmps fun t _ => m.same t ?_⟩
      rintro ⟨i, o, ho, _, _, hl⟩
      rw [all (i + 1) i (by omega) (Array.getElem?_eq_some_iff.1 ho).1] at hl
      cases hl
    intro fuel
    induction fuel with
    | zero =>
      intro n D f H' blk FP listed a b w m hleft
      have hr : Region.ready .any l.toArray listed = [] := by
        rw [List.eq_nil_iff_forall_not_mem]
        intro i hi
        obtain ⟨hu, o, ho, _⟩ := mem_ready.1 hi
        have hil : i < l.toArray.size := (Array.getElem?_eq_some_iff.1 ho).1
        have : 0 < left l.toArray.size listed := by
          unfold left
          refine List.countP_pos_iff.2 ⟨i, List.mem_range.2 hil, ?_⟩
          have : i < listed.size := by rw [m.size]; exact hil
          simp [this] at hu ⊢
          exact hu
        omega
      exact ⟨hr, done _ _ _ _ _ _ _ _ _ _ m hr⟩
    | succ fuel ih =>
      intro n D f H' blk FP listed a b w m hleft
      refine ⟨fun hr => done _ _ _ _ _ _ _ _ _ _ m hr, fun i hi => ?_⟩
      obtain ⟨hu, o, ho, hall⟩ := mem_ready.1 hi
      have hil : i < l.toArray.size := (Array.getElem?_eq_some_iff.1 ho).1
      have hil' : i < listed.size := by rw [m.size]; exact hil
      have hu' : listed.getD i false = false := by
        simp [hil'] at hu ⊢
        exact hu
      obtain ⟨hsel, hown, _, hoth⟩ := drawOkS_spec hok ho
      have hleft' : left l.toArray.size (listed.setIfInBounds i true) ≤ fuel := by
        have : left l.toArray.size (listed.setIfInBounds i true) < left l.toArray.size listed := by
          unfold left
          refine countP_lt (i := i) _ (List.mem_range.2 hil) (fun x hx => ?_) (by simpa using hu') (by simp [hil'])
          by_cases hix : i = x
          · subst hix; simpa using hu'
          · rw [getD_set_ne false hix] at hx; exact hx
        omega
      have hsz' : (listed.setIfInBounds i true).size = l.toArray.size := by simpa using m.size
      have hset : (listed.setIfInBounds i true).getD i false = true := by simp [hil']
      unfold wpOp
      rw [ho]
      dsimp only
      have hlook : ∀ {n : Nat} {D : List Nat} {f : Fr} {b : Act}, Mid P nt X l.toArray M H0 Q n D f H' blk FP listed a b w → ∀ t ∈ looks l.toArray o, a.tmps.getD t undef = b.tmps.getD t undef := by
        intro n D f b m t ht
        refine m.same t ?_
        rintro ⟨j, p, hj, hpt, hjD, hjl⟩
        by_cases hji : i = j
        · subst hji
          obtain rfl : p = o := Option.some.inj (hj.symm.trans ho)
          exact hown t hpt ht
        · have hw : ∃ e ∈ o.after, Region.binds .any e = true ∧ e.on = j := by
            rcases (hoth j p t hj hji hpt).2 ht with ⟨_, h⟩ | _
            · exact h
            · obtain ⟨p', d', _, hp', hd', _, _, _, _, _, hl, _⟩ := m.pends j hjD hjl
              obtain rfl : p' = p := Option.some.inj (hp'.symm.trans hj)
              obtain rfl : d' = t := Option.some.inj (hd'.symm.trans hpt)
              exact lone_spec hl ho hji ht
          obtain ⟨e, he, hb, hon⟩ := hw
          have := hall e he hb
          rw [hon, hjl] at this
          cases this
      have any_restr : ∀ {o : Oper} {f : Fr} {t : Nat}, lk (restr (looks l.toArray o) f) t ≠ .any → t ∈ looks l.toArray o := by
        intro o f t ht
        apply Classical.byContradiction
        intro hn
        rw [lk_restr, if_neg hn] at ht
        exact ht rfl
      have hHH : ∀ {n : Nat} {D : List Nat} {f : Fr} {b : Act}, Mid P nt X l.toArray M H0 Q n D f H' blk FP listed a b w → hide M H0.length H' = hidM M 0 H0 ++ H'.drop H0.length := fun m => by unfold hide; rw [m.old]
      have hback : ∀ {w' : World} {N' : Nat} {v : AV} {u : Value}, Conc w' (X.S FP (hide M H0.length H') N') blk (hide M H0.length H') v u → Conc w' (X.S FP H' N') blk H' v u := fun hc => hc.mono (fun b hb => ⟨(hide_S M H0.length FP H' _ b).1 hb, rfl⟩) (hide_hext M H0.length H' blk)
      have pnd : ∀ (n : Nat) (D : List Nat) (f : Fr) (b : Act), Mid P nt X l.toArray M H0 Q n D f H' blk FP listed a b w → i ∈ D →
          (if Region.wanted o (yielded l.toArray a.tmps) = true then o.wp P a w (wpAny P .any l.toArray (Lift nt X Q) fuel (listed.setIfInBounds i true)) (Lift nt X Q) ∨ (o.asks P a w ∧ LetsOut (Lift nt X Q))
            else wpAny P .any l.toArray (Lift nt X Q) fuel (listed.setIfInBounds i true) (a.put o.dst undef) w) := by
        intro n D f b m hiD
        obtain ⟨o', d, v, ho', hd, hdn, hw, hlk, hlow, hlv, _, hpr⟩ := m.pends i hiD hu'
        obtain rfl : o' = o := Option.some.inj (ho'.symm.trans ho)
        have s1 : StB nt X (restr (looks l.toArray o') f) (hidM M 0 H0 ++ H'.drop H0.length) blk FP a w := by
          rw [← hHH m]
          exact ((m.st.hide M H0.length).restr (looks l.toArray o')).act m.defers m.tmps fun t ht => hlook m t (any_restr ht)
        have next : ∀ u w', Below w.heap.size w w' → Conc w' (X.S FP (hidM M 0 H0 ++ H'.drop H0.length) w'.heap.size) blk (hidM M 0 H0 ++ H'.drop H0.length) v u → wpAny P .any l.toArray (Lift nt X Q) fuel (listed.setIfInBounds i true) (a.put o'.dst u) w' := by
          intro u w' hb hc
          rw [← hHH m] at hc
          refine ih n D f H' blk FP _ _ (b.put (some d) u) w' ?_ hleft'
          refine ⟨m.dr, m.nodup, m.low, m.len, m.old, fun j hj => ?_, hsz', ?_, put_defers.trans m.defers, put_size.trans m.tmps, fun t hp => ?_, fun j hjD hjl => ?_⟩
          · by_cases hij : i = j
            · exact hij ▸ hiD
            · rw [getD_set_ne false hij] at hj; exact m.inD j hj
          · refine ((m.st.called hb).1.put hdn (hback hc)).congr fun t => ?_
            rw [lk_cons]
            split
            · rename_i e; rw [← e]; exact hlk
            · rfl
          · rw [hd]
            refine put_eq (m.tmps.trans m.st.size.symm) fun hne => m.same t ?_
            rintro ⟨j, p, hj, hpt, hjD, hjl⟩
            refine hp ⟨j, p, hj, hpt, hjD, ?_⟩
            have hij : i ≠ j := by
              rintro rfl
              obtain rfl : p = o' := Option.some.inj (hj.symm.trans ho)
              exact hne (hd.symm.trans hpt)
            rw [getD_set_ne false hij]
            exact hjl
          · have hij : i ≠ j := by
              rintro rfl
              rw [hset] at hjl
              cases hjl
            rw [getD_set_ne false hij] at hjl
            exact m.pends j hjD hjl
        rcases hpr with ⟨hg, hy⟩ | ⟨i', t, pol, hgd, hi', hrest⟩
        · rw [if_pos (by simp [Region.wanted, hg])]
          exact .inl ((hy (H'.drop H0.length)).1 blk FP a w s1 o'.dst o'.pos o'.after o'.guard _ _ next)
        · have hlt : t ∈ looks l.toArray o' := by
            unfold looks Oper.looksAt
            rw [hgd]
            refine List.mem_append_right _ ?_
            show t ∈ ((l.toArray[i']?).bind (·.dst)).toList
            rw [hi']
            simp
          have hvt := hlook m t hlt
          have yv : ∀ bb, b.tmps.getD t undef = .bool bb → yielded l.toArray a.tmps i' = some bb := by
            intro bb hv
            rw [← hvt] at hv
            unfold yielded
            rw [hi']
            by_cases ht : t < a.tmps.size
            · have : a.tmps[t]? = some (.bool bb) := by
                rw [Array.getElem?_eq_getElem ht]
                simpa [ht] using hv
              simp [this]
            · simp [ht, undef] at hv
          rcases hrest with ⟨hp, hy⟩ | ⟨hp, hany⟩
          · have hv : b.tmps.getD t undef = .bool pol := by
              rcases hp with h | h
              · exact inv_b (h ▸ m.st.fr t)
              · exact inv_kb (h ▸ m.st.fr t)
            rw [if_pos (by simp [Region.wanted, hgd, yv _ hv])]
            exact .inl ((hy (H'.drop H0.length)).1 blk FP a w s1 o'.dst o'.pos o'.after o'.guard _ _ next)
          · have hyv : yielded l.toArray a.tmps i' ≠ some pol := by
              rcases hp with h | h | h
              · rw [yv _ (inv_b (h ▸ m.st.fr t))]; simp
              · rw [yv _ (inv_kb (h ▸ m.st.fr t))]; simp
              · have hv : b.tmps.getD t undef = .tuple #[] := by
                  have := h ▸ m.st.fr t
                  obtain ⟨us, hu, hl, _⟩ := inv_tup this
                  cases us with
                  | nil => exact hu
                  | cons => cases hl
                rw [← hvt] at hv
                unfold yielded
                rw [hi']
                by_cases ht : t < a.tmps.size
                · have : a.tmps[t]? = some (.tuple #[]) := by
                    rw [Array.getElem?_eq_getElem ht]
                    simpa [ht] using hv
                  simp [this]
                · simp [ht]
            rw [if_neg (by simpa [Region.wanted, hgd] using hyv)]
            refine next undef w (Below.refl _ _) (by rw [hany]; exact .tup [] [] rfl (by simp))
      clear hi hleft
      revert m
      revert b f D
      induction n with
      | zero =>
        intro D f b m
        refine pnd 0 D f b m ?_
        apply Classical.byContradiction
        intro hD
        have := List.Nodup.length_le_of_subset (List.nodup_cons.2 ⟨hD, m.nodup⟩) (l₂ := List.range l.toArray.size) (fun x hx => by
          rcases List.mem_cons.1 hx with rfl | hx
          · exact List.mem_range.2 hil
          · exact List.mem_range.2 (m.low x hx))
        rw [List.length_range, List.length_cons] at this
        have := m.len
        omega
      | succ n ihn =>
        intro D f b m
        by_cases hiD : i ∈ D
        · exact pnd (n + 1) D f b m hiD
        rcases m.dr with ⟨j, oj, d, v, hj, hjD, hd, hdn, hwj, hlow, hlv, hlone, hpr, hdr⟩ | hbr
        · have hjl : listed.getD j false = false := by
            cases hl : listed.getD j false with
            | false => rfl
            | true => exact absurd (m.inD j hl) hjD
          obtain ⟨_, howj, _, hothj⟩ := drawOkS_spec hok hj
          have hu : ∃ u, Conc w (X.S FP H' w.heap.size) blk H' v u := by
            have s1 : StB nt X (restr (looks l.toArray oj) f) (hidM M 0 H0 ++ H'.drop H0.length) blk FP b w := by
              rw [← hHH m]
              exact (m.st.hide M H0.length).restr (looks l.toArray oj)
            have run : PJ P nt X l.toArray (hidM M 0 H0) oj.op oj.type (restr (looks l.toArray oj) f) v → ∃ u, Conc w (X.S FP H' w.heap.size) blk H' v u := fun hy => by
              obtain ⟨u, hc⟩ := (hy (H'.drop H0.length)).2 blk FP b w s1
              rw [← hHH m] at hc
              exact ⟨u, hback hc⟩
            rcases hpr with ⟨_, hy⟩ | ⟨_, _, _, _, _, ⟨_, hy⟩ | ⟨_, hany⟩⟩
            · exact run hy
            · exact run hy
            · exact ⟨undef, by rw [hany]; exact .tup [] [] rfl (by simp)⟩
          obtain ⟨u, hc⟩ := hu
          have hlooks : ∀ {i2 : Nat} {o2 : Oper}, l.toArray[i2]? = some o2 → i2 ∈ j :: D → waits D o2 = true → ∀ t ∈ looks l.toArray o2, lk ((d, v) :: f) t = lk f t := by
            intro i2 o2 h2 hD2 hw2 t ht
            rw [lk_cons, if_neg]
            rintro rfl
            by_cases e : i2 = j
            · subst e
              obtain rfl : o2 = oj := Option.some.inj (h2.symm.trans hj)
              exact howj d hd ht
            · obtain ⟨e', he, hb, hon⟩ := lone_spec hlone h2 e ht
              exact hjD (hon ▸ waits_iff.1 hw2 e' he hb)
          have hlowc : ∀ {o2 : Oper}, (∀ t ∈ looks l.toArray o2, lk ((d, v) :: f) t = lk f t) → ((looks l.toArray o2).all fun t => low H0.length (lk f t)) = true → ((looks l.toArray o2).all fun t => low H0.length (lk ((d, v) :: f) t)) = true := by
            intro o2 h1 h2
            rw [List.all_eq_true] at h2 ⊢
            intro t ht
            rw [h1 t ht]
            exact h2 t ht
          refine ihn (j :: D) ((d, v) :: f) (b.put (some d) u) ⟨hdr, List.nodup_cons.2 ⟨hjD, m.nodup⟩, fun x hx => ?_, ?_, m.old, fun x hx => List.mem_cons_of_mem _ (m.inD x hx), m.size, m.st.put hdn hc, m.defers, m.tmps, fun t hp => ?_, fun x hx hxl => ?_⟩
          · rcases List.mem_cons.1 hx with rfl | hx
            · exact (Array.getElem?_eq_some_iff.1 hj).1
            · exact m.low x hx
          · have := m.len
            simp only [List.length_cons]
            omega
          · have hdt : d ≠ t := by
              rintro rfl
              exact hp ⟨j, oj, hj, hd, by simp, hjl⟩
            rw [getD_put hdt]
            refine m.same t ?_
            rintro ⟨x, p, hx, hpt, hxD, hxl⟩
            exact hp ⟨x, p, hx, hpt, List.mem_cons_of_mem _ hxD, hxl⟩
          · rcases List.mem_cons.1 hx with rfl | hxD
            · have h1 := hlooks hj (by simp) hwj
              refine ⟨oj, d, v, hj, hd, hdn, ?_, by rw [lk_cons, if_pos rfl], hlowc h1 hlow, hlv, hlone, hpr.congr h1⟩
              exact waits_iff.2 fun e he hb => List.mem_cons_of_mem _ (waits_iff.1 hwj e he hb)
            · obtain ⟨o2, d2, v2, h1, h2, h3, h4, h5, h6, h7, h7', h8⟩ := m.pends x hxD hxl
              have h9 := hlooks h1 hx h4
              refine ⟨o2, d2, v2, h1, h2, h3, waits_iff.2 fun e he hb => List.mem_cons_of_mem _ (waits_iff.1 h4 e he hb), ?_, hlowc h9 h6, h7, h7', h8.congr h9⟩
              rw [lk_cons, if_neg]
              · exact h5
              · rintro rfl
                have := uniq h1 hj h2 hd
                subst this
                exact hjD hxD
        · have hw : waits D o = true := waits_iff.2 fun e he hb => m.inD e.on (hall e he hb)
          have hp := hbr i o ho hiD hw b w ⟨blk, FP, m.st⟩
          unfold wpList at hp
          rw [wanted_same (ops := l.toArray) (m.tmps.trans m.st.size.symm) (hlook m)]
          have next : ∀ u w', wpList P l.toArray (Lift nt X fun e f' H2 => e = .normal ∧ Ext H0.length o.dst f f' ∧ hidM M 0 (H2.take H0.length) = hidM M 0 H0 ∧ DR P nt X l.toArray M H0 Q n (i :: D) f' H2) [] (b.put o.dst u) w' →
              wpAny P .any l.toArray (Lift nt X Q) fuel (listed.setIfInBounds i true) (a.put o.dst u) w' := by
            intro u w' hk
            obtain ⟨f2, H2, ⟨_, hext, hold, hdr⟩, blk2, FP2, s2⟩ := hk
            refine ih n (i :: D) f2 H2 blk2 FP2 _ _ (b.put o.dst u) w' ⟨hdr, List.nodup_cons.2 ⟨hiD, m.nodup⟩, fun x hx => ?_, ?_, hold, fun x hx => ?_, hsz', s2, put_defers.trans m.defers, put_size.trans m.tmps, fun t hp => ?_, fun x hx hxl => ?_⟩ hleft'
            · rcases List.mem_cons.1 hx with rfl | hx
              · exact hil
              · exact m.low x hx
            · have := m.len
              simp only [List.length_cons]
              omega
            · by_cases hix : i = x
              · subst hix; simp
              · rw [getD_set_ne false hix] at hx; exact List.mem_cons_of_mem _ (m.inD x hx)
            · refine put_eq (m.tmps.trans m.st.size.symm) fun hne => m.same t ?_
              rintro ⟨x, p, hx, hpt, hxD, hxl⟩
              refine hp ⟨x, p, hx, hpt, List.mem_cons_of_mem _ hxD, ?_⟩
              have hix : i ≠ x := by rintro rfl; exact hiD hxD
              rw [getD_set_ne false hix]
              exact hxl
            · have hix : i ≠ x := by
                rintro rfl
                rw [hset] at hxl
                cases hxl
              rw [getD_set_ne false hix] at hxl
              have hxD : x ∈ D := by
                rcases List.mem_cons.1 hx with e | hx
                · exact absurd e.symm hix
                · exact hx
              obtain ⟨o2, d2, v2, h1, h2, h3, h4, h5, h6, h7, h7', h8⟩ := m.pends x hxD hxl
              have h9 : ∀ t ∈ looks l.toArray o2, lk f2 t = lk f t := by
                intro t ht
                refine hext t (fun e => ?_) (List.all_eq_true.1 h6 t ht)
                rcases ((drawOkS_spec hok h1).2.2.2 i o t ho (Ne.symm hix) e).2 ht with ⟨_, e', he, hb, hon⟩ | ⟨_, e', he, hb, hon⟩
                · exact hiD (hon ▸ waits_iff.1 h4 e' he hb)
                · have := hall e' he hb
                  rw [hon, hxl] at this
                  cases this
              refine ⟨o2, d2, v2, h1, h2, h3, waits_iff.2 fun e he hb => List.mem_cons_of_mem _ (waits_iff.1 h4 e he hb), ?_, ?_, h7, h7', h8.congr h9⟩
              · rw [hext d2 (fun e => hix (uniq ho h1 e h2)) (by rw [h5]; exact h7)]
                exact h5
              · rw [List.all_eq_true] at h6 ⊢
                intro t ht
                rw [h9 t ht]
                exact h6 t ht
          by_cases hwt : Region.wanted o (yielded l.toArray b.tmps) = true
          · rw [if_pos hwt] at hp ⊢
            rcases hp with hp | ⟨_, a2, w2, f2, H2, ⟨hq, _⟩, _⟩
            · refine .inl (wp_same (ops := l.toArray) (exec_same hsel (hlook m)) (m.defers.trans m.st.defers.symm) next (fun d u w' hk => ?_) (fun e a w hne hq => ?_) hp)
              · obtain ⟨_, _, _, _, _, s2⟩ := hk
                have := s2.defers
                rw [put_defers] at this
                cases this
              · obtain ⟨_, _, ⟨hq, _⟩, _⟩ := hq
                exact hne hq
            · cases hq
          · rw [if_neg hwt] at hp ⊢
            exact next undef w hp
  refine key l.toArray.size l.length [] f H blk0 FP0 (Array.replicate l.toArray.size false) a a _ ?_ ?_
  · refine ⟨h, List.nodup_nil, by simp, by simp, hold, fun i hi => ?_, by simp, s.draw, s.defers, s.size, fun t _ => rfl, by simp⟩
    have : (Array.replicate l.toArray.size false).getD i false = false := by
      generalize l.toArray.size = m
      rcases Nat.lt_or_ge i m with hj | hj <;> simp [hj]
    rw [this] at hi
    cases hi
  · unfold left
    exact Nat.le_trans List.countP_le_length (by simp)
theorem pw_drawH {id : Nat} {l : List Oper} (M : List Nat) {H0 : Hp} (hold : hidM M 0 (H.take H0.length) = hidM M 0 H0) (hm : P.follows .mixedOrders = true) (hok : drawOkS l.toArray = true) (h : DR P nt X l.toArray M H0 Q l.length [] f H) :
    PW P nt X (.region id l.toArray true) f H Q := fun a w s => wp_region_any hm (any_drawH M hold hok h a w s)
theorem dt_goH {id : Nat} {ops : Array Oper} {Q : Exit → Fr → Hp → Prop} (n0 : Nat) (M : List Nat) (hn : Nat.ble n0 H.length = true) (h : drawOkS ops = true ∧ dsC E nt ops M (H.take n0) (Q .normal) ops.toList.length [] f H) : DT E nt X id ops f H Q := ⟨by
  obtain ⟨hok, h⟩ := h
  have hl : (H.take n0).length = n0 := by rw [List.length_take]; have := Nat.le_of_ble_eq_true hn; omega
  have hold : hidM M 0 (H.take (H.take n0).length) = hidM M 0 (H.take n0) := by rw [hl]
  have := pw_drawH (id := id) (l := ops.toList) (Q := Q) (X := X) M hold E.mixed (by simpa using hok) (by simpa using dsC_ok (Q := Q) (X := X) _ _ _ _ hold h)
  simpa using this⟩
end
end Go.Proofs.Ytdeledeopippfaa
