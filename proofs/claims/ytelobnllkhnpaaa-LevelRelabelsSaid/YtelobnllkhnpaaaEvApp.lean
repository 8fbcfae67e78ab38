/- append. -/
import Derived.Test.YtelobnllkhnpaaaEvOp7
import Derived.Deep.AppendSrc
namespace Go.Ev
set_option linter.unusedVariables false
set_option linter.unusedSimpArgs false

variable {P : Program} {C : Cfg} {Γ : Ctx} {t : Nat} {ti : TI} {base n0 f : Nat} {β : Nat → Nat} {s s' : St} {a : Act} {o : Oper} {K : Callee}

theorem lenOf_sound {x : AV} {v : Value} {m : Nat} (h : lenOf x = some m) (hr : RelV Γ x v) (w : World) (hs : ∀ b, x ≠ .str b) : (Builtin.lenOf v).run P w = .ok m w := by
  cases hr <;> simp only [lenOf] at h <;> first | (cases h; done) | skip
  · exact absurd rfl (hs _)
  · injection h with h; subst h; rfl
  · rename_i hh h1 hin; obtain ⟨ad, c, rfl⟩ := h1; injection h with h; subst h; rfl
  · rename_i hT
    cases hT with
    | vs g hn hc hsz hA hmem hrel => injection h with h; subst h; subst hn; rfl

theorem flatten_get {α : Type} {sz : Nat} : ∀ (xs : List (List α)), (∀ r, r ∈ xs → r.length = sz) → ∀ k, 0 < sz → xs.flatten[k]? = (xs[k / sz]?).bind (·[k % sz]?)
  | [], _, k, _ => by simp
  | r :: xs, h, k, h0 => by
    have hr := h r (List.mem_cons_self ..)
    rw [List.flatten_cons]
    rcases Nat.lt_or_ge k sz with h1 | h1
    · rw [List.getElem?_append_left (by omega), Nat.div_eq_of_lt h1, Nat.mod_eq_of_lt h1]
      rfl
    · rw [List.getElem?_append_right (by omega), hr, flatten_get xs (fun r hr => h r (List.mem_cons_of_mem _ hr)) (k - sz) h0]
      have e1 : k / sz = (k - sz) / sz + 1 := by
        rw [Nat.div_eq_sub_div h0 h1]
      have e2 : k % sz = (k - sz) % sz := Nat.mod_eq_sub_mod h1
      rw [e1, e2]
      rfl
theorem flatten_len {α : Type} {sz : Nat} : ∀ (xs : List (List α)), (∀ r, r ∈ xs → r.length = sz) → xs.flatten.length = xs.length * sz
  | [], _ => by simp
  | r :: xs, h => by
    rw [List.flatten_cons, List.length_append, flatten_len xs (fun r hr => h r (List.mem_cons_of_mem _ hr)), h r (List.mem_cons_self ..), List.length_cons, Nat.succ_mul]
    omega

/-- The cells that a value of append's second argument yields. -/
theorem src_sound {u e' : TypeId} (hu : P.underlying u = some (.slice e')) (I : Inv base Γ) {sz m : Nat} {x : AV} {v : Value} {ys : List AV} (h : rowOf Γ.H sz x = some ys) (hl : lenOf x = some m) (hr : RelV Γ x v) (h0 : 0 < sz) :
    ∃ news : List Value, Src P sz u v m news Γ.w ∧ RelC Γ ys news.toArray := by
  unfold rowOf at h
  split at h
  · injection h with h; subst h
    injection hl with hl; subst hl
    cases hr
    exact ⟨[], Src.ofNil Γ.w hu 0, rfl, by simp, by simp⟩
  · rename_i sz' xs
    split at h
    · rename_i hc
      injection h with h; subst h
      injection hl with hl; subst hl
      cases hr with
      | vs hT => cases hT with
       | vs g hn hc' hsz hA hmem hrel =>
        rename_i A n c
        subst hn
        by_cases hx : xs = []
        · subst hx
          cases A with
          | none => exact ⟨[], Src.ofNil Γ.w hu c, rfl, by simp, by simp⟩
          | some ad => exact ⟨[], Src.ofSlice Γ.w hu ad 0 c [] (by simp) (by simp) (by simp), rfl, by simp, by simp⟩
        · have hz : sz' = sz := hc.resolve_right hx
          subst hz
          obtain ⟨ad, rfl⟩ := hA (by
            rcases xs with _ | ⟨r, l⟩
            · exact absurd rfl hx
            · simp)
          have hfl := flatten_len xs (fun r hr => (hsz r hr).1)
          have hget : ∀ k y, xs.flatten[k]? = some y → ∃ r, xs[k / sz']? = some r ∧ r[k % sz']? = some y := fun k y hk => by
            rw [flatten_get xs (fun r hr => (hsz r hr).1) k h0] at hk
            obtain ⟨r, h1, h2⟩ := Option.bind_eq_some_iff.1 hk
            exact ⟨r, h1, h2⟩
          have hone : ∀ x, x ∈ xs.flatten → oneCell x = true := fun x hx => by
            obtain ⟨r, h1, h2⟩ := List.mem_flatten.1 hx
            exact (hsz r h1).2 x h2
          refine ⟨(List.range (xs.length * sz')).map fun k => g (k / sz') (k % sz'), Src.ofSlice Γ.w hu ad xs.length c _ (by simp) (fun j u hj => ?_) (fun u hu => ?_), by simp [hfl], hone, fun i x hi => ?_⟩
          · have hlt : j < xs.length * sz' := by
              rcases Nat.lt_or_ge j (xs.length * sz') with h' | h'
              · exact h'
              · rw [List.getElem?_eq_none (by simpa using h')] at hj; cases hj
            simp [hlt] at hj
            subst hj
            have h1 := (hmem ad rfl (j / sz') (j % sz') ((Nat.div_lt_iff_lt_mul h0).2 hlt) (Nat.mod_lt _ h0)).1
            rw [Nat.mul_comm, Nat.div_add_mod] at h1
            exact h1
          · obtain ⟨k, hk, rfl⟩ := List.mem_map.1 hu
            have hlt : k < xs.flatten.length := by rw [hfl]; simpa using hk
            obtain ⟨r, h1, h2⟩ := hget k _ (List.getElem?_eq_getElem hlt)
            exact (hrel _ _ _ _ h1 h2).toV.oneCell (hone _ (List.getElem_mem hlt))
          · obtain ⟨r, h1, h2⟩ := hget i x hi
            have hlt : i < xs.length * sz' := by
              rcases Nat.lt_or_ge i xs.flatten.length with h' | h'
              · omega
              · rw [List.getElem?_eq_none h'] at hi; cases hi
            have := (hrel _ _ _ _ h1 h2).toV
            simpa [Array.getD_eq_getD_getElem?, hlt] using this
    · cases h
  · rename_i id sz' off len
    split at h
    · rename_i T xs hx
      split at h
      · rename_i hc
        obtain ⟨c1, c2⟩ := hc
        subst c1
        injection h with h; subst h
        injection hl with hl; subst hl
        obtain ⟨b, c, arr, T', fr, hb, hv, hle, hh, hsz⟩ := sl_slice hr hx c2
        obtain ⟨arr2, k1, k2, k3, k4⟩ := I.cells id b T xs hb hx
        rw [k1] at hh
        injection hh with hh; injection hh with e1 _ _; subst e1
        subst hv
        have hone : ∀ x, x ∈ xs.drop off → oneCell x = true := fun x hx => k3 x (List.mem_of_mem_drop hx)
        refine ⟨((arr2.toList.drop off).take (len * sz')), Src.ofSlice Γ.w hu _ len c _ (by simp; omega) (fun j u hj => ?_) (fun u hu => ?_), ?_, hone, fun i x hi => ?_⟩
        · have hlt : j < len * sz' := by
            rcases Nat.lt_or_ge j (len * sz') with h' | h'
            · exact h'
            · rw [List.getElem?_take_eq_none h'] at hj; cases hj
          rw [List.getElem?_take_of_lt hlt, List.getElem?_drop] at hj
          rw [add_off]
          unfold World.cell?
          simp only [k1]
          rw [← Array.getElem?_toList]
          simpa using hj
        · obtain ⟨k, hk, rfl⟩ := List.mem_iff_getElem.1 hu
          have hk' : k < len * sz' := by simp at hk; omega
          have hlt : off + k < xs.length := by omega
          have h1 := (k4 (off + k) _ (List.getElem?_eq_getElem hlt)).oneCell (k3 _ (List.getElem_mem hlt))
          have hlt2 : off + k < arr2.size := by omega
          simpa [Array.getD_eq_getD_getElem?, hlt2] using h1
        · simp; omega
        · rw [List.getElem?_drop] at hi
          have h1 := k4 _ x hi
          have hlt : off + i < xs.length := by
            rcases Nat.lt_or_ge (off + i) xs.length with h' | h'
            · exact h'
            · rw [List.getElem?_eq_none h'] at hi; cases hi
          have e : (((arr2.toList.drop off).take (len * sz')).toArray).getD i undef = arr2.getD (off + i) undef := by
            rw [Array.getD_eq_getD_getElem?, Array.getD_eq_getD_getElem?, List.getElem?_toArray, List.getElem?_take_of_lt (by omega), List.getElem?_drop, Array.getElem?_toList]
          rw [e]; exact h1
      · cases h
    · cases h
  · cases h

theorem RelC.append {xs ys : List AV} {arr : Array Value} {news rest : List Value} (hn : xs.length ≤ arr.size) (h1 : ∀ x, x ∈ xs → oneCell x = true) (hr : ∀ (i : Nat) (x : AV), xs[i]? = some x → RelV Γ x (arr.getD i undef)) (hy : RelC Γ ys news.toArray) :
    (∀ x, x ∈ xs ++ ys → oneCell x = true) ∧ ∀ (i : Nat) (x : AV), (xs ++ ys)[i]? = some x → RelV Γ x ((arr.toList.take xs.length ++ news ++ rest).toArray.getD i undef) := by
  refine ⟨fun x hx => ?_, fun i x hi => ?_⟩
  · rcases List.mem_append.1 hx with hx | hx
    · exact h1 x hx
    · exact hy.2.1 x hx
  · have hl : (arr.toList.take xs.length).length = xs.length := by simp; omega
    have hyl : news.length = ys.length := by simpa using hy.1
    rw [Array.getD_eq_getD_getElem?, List.getElem?_toArray]
    rcases Nat.lt_or_ge i xs.length with h | h
    · rw [List.getElem?_append_left h] at hi
      rw [List.append_assoc, List.getElem?_append_left (by omega), List.getElem?_take_of_lt h, Array.getElem?_toList, ← Array.getD_eq_getD_getElem?]
      exact hr i x hi
    · rw [List.getElem?_append_right h] at hi
      have hlt : i - xs.length < ys.length := by
        rcases Nat.lt_or_ge (i - xs.length) ys.length with h' | h'
        · exact h'
        · rw [List.getElem?_eq_none h'] at hi; cases hi
      have := hy.2.2 _ x hi
      rw [List.append_assoc, List.getElem?_append_right (by omega), hl, List.getElem?_append_left (by omega)]
      rw [Array.getD_eq_getD_getElem?, List.getElem?_toArray] at this
      exact this

/-- What a builtin leaves. -/
def BiPost (base lo : Nat) (Γ : Ctx) (r : AV) (h' : Heap) (v : Value) (w' : World) : Prop :=
  ∃ Γ' : Ctx, Γ'.w = w' ∧ Γ'.H = h' ∧ Ext lo (fun _ => False) Γ Γ' ∧ Inv base Γ' ∧ RelV Γ' r v

theorem BiPost.same {lo : Nat} {r : AV} {v : Value} (I : Inv base Γ) (h : RelV Γ r v) : BiPost base lo Γ r Γ.H v Γ.w := ⟨Γ, rfl, rfl, Ext.refl _ _ _, I, h⟩

theorem grown_ge (w : World) (need old : Nat) (e : TypeId) : need ≤ grownCap w need old e := grownCap_ge w need old e

theorem append_sound (hT : TabOk P C.tab) {u e' : TypeId} (hu : P.underlying u = some (.slice e')) (I : Inv base Γ) (hb0 : base ≤ Γ.w.heap.size) {lo : Nat} {sa x r : AV} {vs vx : Value} {h' : Heap} (h : append C.tab lo Γ.H t sa x = some (r, h'))
    (rs : RelV Γ sa vs) (rx : RelV Γ x vx) (ty : TypeId) : ∃ v w', (Builtin.append_ #[t, u] ty #[vs, vx]).run P Γ.w = .ok v w' ∧ BiPost base lo Γ r h' v w' := by
  unfold append at h
  split at h
  · rename_i e sz0 by0 zr0 ht
    split at h
    · rename_i ti he
      have hti := hT _ _ he
      have hut := (hT _ _ ht).slice rfl
      obtain ⟨i, hi1, hi2, hi3, z, hz, hzs, hzm, hzh⟩ := hti.info
      split at h
      · rename_i ys m hy hm
        split at h
        · cases rs
          split at h
          · rename_i h0
            injection h with h; injection h with e1 e2; subst e1 e2
            subst h0
            have hfc : ∃ cs, (Builtin.firstCells ti.sz 0 vx).run P Γ.w = .ok cs Γ.w ∧ (Builtin.lenOf vx).run P Γ.w = .ok 0 Γ.w := by
              have hl : (Builtin.lenOf vx).run P Γ.w = .ok 0 Γ.w := lenOf_sound hm rx Γ.w (fun b e => by subst e; simp [rowOf] at hy)
              cases vx <;> first | (simp [Builtin.lenOf] at hl; done) | skip
              · rename_i s
                exact ⟨_, by simp [Builtin.firstCells]; rfl, hl⟩
              · rename_i A n c
                cases A with
                | none => exact ⟨_, run_firstCells_none _ _ _ _ _, hl⟩
                | some ad => exact ⟨_, run_firstCells_some _ ti.sz 0 ad n c [] (by simp) (by simp), hl⟩
            obtain ⟨cs, f1, f2⟩ := hfc
            refine ⟨.slice none 0 0, Γ.w, ?_, BiPost.same I .nils⟩
            rw [← hi2] at f1
            simp [Builtin.append_, run_underlying hut, run_underlying hu, sizeOf, typeInfo, hi1, f1, f2]
          · rename_i h0
            split at h
            · rename_i hc
              injection h with h; injection h with e1 e2; subst e1 e2
              obtain ⟨c1, c2, c3⟩ := hc
              obtain ⟨news, hs, hrel⟩ := src_sound hu I hy hm rx c2
              rw [← hi2] at hs
              have hyl : ys.length = m * ti.sz := by have h1 := hs.newsLen; have h2 := hrel.1; simp at h2; rw [hi2] at h1; omega
              have hcap := grown_ge Γ.w (0 + m) 0 e
              refine ⟨_, _, run_append_grow_src Γ.w t u ty e i z hut hi1 hz none 0 0 [] (run_firstCells_none _ _ _ _ _) vx m news hs (by omega) (by unfold room at c3; omega) (growslice_fits (by omega) (by unfold room at c1; rw [hi3, Nat.zero_add]; exact c1)), ?_⟩
              have hI1 := I.drawn (Γ.w.drawn + 1)
              have hrel1 : RelC { Γ with w := Γ.w.drew } ys news.toArray := ⟨hrel.1, hrel.2.1, fun i x hx => (hrel.2.2 i x hx).ext (Ext.drawn lo Γ _) I (fun _ _ e => e)⟩
              generalize hA : ((([] ++ news).toArray ++ Builtin.zeroCells z.cells (grownCap Γ.w (0 + m) 0 e - (0 + m))) : Array Value) = A
              have hA' : A = (([] : List Value) ++ news ++ (Builtin.zeroCells z.cells (grownCap Γ.w (0 + m) 0 e - (0 + m))).toList).toArray := by
                rw [← hA]; apply Array.ext'; simp
              have hsz2 : A.size = grownCap Γ.w (0 + m) 0 e * ti.sz := by
                have h1 := hs.newsLen
                rw [hi2] at h1
                rw [← hA]
                simp [size_zeroCells, hzs, h1]
                rw [← Nat.add_mul]
                congr 1
                simp at hcap
                omega
              have hap := RelC.append (Γ := { Γ with w := Γ.w.drew }) (xs := []) (arr := #[]) (rest := (Builtin.zeroCells z.cells (grownCap Γ.w (0 + m) 0 e - (0 + m))).toList) (by simp) (by simp) (by simp) hrel1
              rw [show (#[] : Array Value).toList.take ([] : List AV).length = [] from rfl, ← hA'] at hap
              refine ⟨Ctx.push { Γ with w := Γ.w.drew } (.cells e ys) (.cells A e (0, 0)), rfl, rfl, Ext.trans (Ext.drawn lo Γ _) (Ext.push lo _ _) (Nat.le_refl _) (fun _ _ _ h => h.elim), hI1.push ⟨_, rfl, ?_, hap.1, hap.2⟩ hb0, ?_⟩
              · rw [hsz2, hyl]; exact Nat.mul_le_mul_right _ (by omega)
              · have := sl_new (Γ := { Γ with w := Γ.w.drew }) (T := e) (sz := ti.sz) (len := m) (c := grownCap Γ.w (0 + m) 0 e) (xs := ys) (arr := A) hyl (by omega) (by rw [hsz2]; exact Nat.le_refl _)
                simp only [Nat.zero_add] at this ⊢
                exact this
            · cases h
        · rename_i id sz off len
          split at h
          · rename_i e2 xs hx
            split at h
            · rename_i hc
              injection h with h; injection h with e1 e2; subst e1 e2
              obtain ⟨c1, rfl, rfl, rfl, c5, c6, c7, c8⟩ := hc
              obtain ⟨news, hs, hrel⟩ := src_sound hu I hy hm rx c6
              rw [← hi2] at hs
              have hyl : ys.length = m * ti.sz := by have h1 := hs.newsLen; have h2 := hrel.1; simp at h2; rw [hi2] at h1; omega
              have hnl : news.length = m * ti.sz := by have h1 := hs.newsLen; rw [hi2] at h1; exact h1
              obtain ⟨b, c, arr, T', fr, hb, hv, hle, hh, hcs⟩ := sl_slice rs hx (by omega)
              obtain ⟨arr2, k1, k2, k3, k4⟩ := I.cells id b e2 xs hb hx
              rw [k1] at hh
              injection hh with hh; injection hh with q1 q2 q3; subst q1 q2 q3
              subst hv
              have hblt := (I.dom id b hb).2.1
              have hadd : (len + m) * ti.sz = len * ti.sz + m * ti.sz := Nat.add_mul ..
              by_cases hroom : len + m ≤ c
              · have hmul : (len + m) * ti.sz ≤ c * ti.sz := Nat.mul_le_mul_right _ hroom
                have hst := run_storeCells_at (P := P) b (len * ti.sz) e2 news 0 arr2 Γ.w k1 (by omega) hs.one
                rw [setRow_eq k1, Nat.add_zero] at hst
                have hrun : (Builtin.append_ #[t, u] ty #[.slice (some ⟨b, 0, none⟩) len c, vx]).run P Γ.w = .ok (.slice (some ⟨b, 0, none⟩) (len + m) c)
                    { Γ.w with heap := Γ.w.heap.setIfInBounds b (.cells (arr2.toList.take (len * ti.sz) ++ news ++ arr2.toList.drop (len * ti.sz + news.length)).toArray e2 (0, 0)) } := by
                  have hsl := hs.len
                  have hsc := hs.cells
                  rw [← hi2] at hst ⊢
                  simp [Builtin.append_, run_underlying hut, run_underlying hu, sizeOf, typeInfo, hi1, hsl, hroom, hsc, Addr.add_lit, hst]
                refine ⟨_, _, hrun, ?_⟩
                have hasz : (arr2.toList.take (len * ti.sz) ++ news ++ arr2.toList.drop (len * ti.sz + news.length)).toArray.size = arr2.size := by simp; omega
                have hext : Ext lo (fun _ => False) Γ (Γ.upd id b (.cells e2 (xs ++ ys)) (.cells (arr2.toList.take (len * ti.sz) ++ news ++ arr2.toList.drop (len * ti.sz + news.length)).toArray e2 (0, 0))) :=
                  Ext.updCells I c1 hb hx k1 hasz (by simp)
                have hob : RelC Γ ys news.toArray := hrel
                have hap := RelC.append (rest := arr2.toList.drop (len * ti.sz + news.length)) k2 k3 k4 hob
                rw [← c5] at hap
                refine ⟨_, rfl, rfl, hext, I.upd hb hext ⟨_, rfl, by rw [hasz]; simp; omega, hap.1, hap.2⟩, ?_⟩
                refine .sl (by simp [Ctx.upd]; exact (I.dom id b hb).1) ⟨_, _, rfl⟩ fun T zs hz => ?_
                rw [Ctx.upd, List.getElem?_set_self (I.dom id b hb).1] at hz
                injection hz with hz; injection hz with z1 z2; subst z1 z2
                refine ⟨by simp; omega, fun _ => ⟨b, c, _, e2, (0, 0), hb, rfl, hroom, heap_set_same hblt, by rw [hasz]; omega⟩⟩
              · have hg : c < len + m := by omega
                have hold : (Builtin.firstCells i.size len (.slice (some ⟨b, 0, none⟩) len c)).run P Γ.w.drew = .ok (arr2.toList.take (len * ti.sz)).toArray Γ.w.drew := by
                  refine run_firstCells_some _ i.size len _ len c _ ?_ fun j v hj => ?_
                  · rw [hi2]; simp; omega
                  · have hlt : j < len * ti.sz := by
                      rcases Nat.lt_or_ge j (len * ti.sz) with h' | h'
                      · exact h'
                      · rw [List.getElem?_take_eq_none h'] at hj; cases hj
                    rw [List.getElem?_take_of_lt hlt] at hj
                    rw [add_zero']
                    show World.cell? Γ.w.drew _ = _
                    unfold World.cell?
                    have : Γ.w.drew.heap[b]? = some (.cells arr2 e2 (0, 0)) := k1
                    simp only [this]
                    rw [← Array.getElem?_toList]
                    simpa using hj
                have hcap := grown_ge Γ.w (len + m) c e2
                refine ⟨_, _, run_append_grow_src Γ.w t u ty e2 i z hut hi1 hz (some ⟨b, 0, none⟩) len c _ hold vx m news hs hg (by unfold room at c8; omega) (growslice_fits hg (by unfold room at c7; rw [hi3]; exact c7)), ?_⟩
                have hI1 := I.drawn (Γ.w.drawn + 1)
                have hrel1 : RelC { Γ with w := Γ.w.drew } ys news.toArray := ⟨hrel.1, hrel.2.1, fun i x hx => (hrel.2.2 i x hx).ext (Ext.drawn lo Γ _) I (fun _ _ e => e)⟩
                generalize hA : (((arr2.toList.take (len * ti.sz) ++ news).toArray ++ Builtin.zeroCells z.cells (grownCap Γ.w (len + m) c e2 - (len + m))) : Array Value) = A
                have hA' : A = (arr2.toList.take (len * ti.sz) ++ news ++ (Builtin.zeroCells z.cells (grownCap Γ.w (len + m) c e2 - (len + m))).toList).toArray := by
                  rw [← hA]; apply Array.ext'; simp
                have hsz2 : A.size = grownCap Γ.w (len + m) c e2 * ti.sz := by
                  rw [← hA]
                  have e3 : grownCap Γ.w (len + m) c e2 * ti.sz = (len + m) * ti.sz + (grownCap Γ.w (len + m) c e2 - (len + m)) * ti.sz := by
                    rw [← Nat.add_mul]; congr 1; omega
                  simp [size_zeroCells, hzs, hnl]
                  omega
                have hcm : (len + m) * ti.sz ≤ grownCap Γ.w (len + m) c e2 * ti.sz := Nat.mul_le_mul_right _ hcap
                have hm0 : 0 < m * ti.sz := Nat.mul_pos (by omega) c6
                have hk4 : ∀ (i : Nat) (x : AV), xs[i]? = some x → RelV { Γ with w := Γ.w.drew } x (arr2.getD i undef) := fun i x hx => (k4 i x hx).ext (Ext.drawn lo Γ _) I (fun _ _ e => e)
                have hap := RelC.append (Γ := { Γ with w := Γ.w.drew }) (rest := (Builtin.zeroCells z.cells (grownCap Γ.w (len + m) c e2 - (len + m))).toList) k2 k3 hk4 hrel1
                rw [← c5, ← hA'] at hap
                have hmv : Ext lo (fun _ => False) { Γ with w := Γ.w.drew } (Ctx.move { Γ with w := Γ.w.drew } id (.cells e2 (xs ++ ys)) (.cells A e2 (0, 0))) := Ext.move (b := b) (T := e2) (xs := xs) (xs' := xs ++ ys) c1 hb hx (by simp; omega)
                refine ⟨_, rfl, rfl, Ext.trans (Ext.drawn lo Γ _) hmv (Nat.le_refl _) (fun _ _ _ h => h.elim), Inv.move hI1 hb hmv ⟨_, rfl, by rw [hsz2]; simp; omega, hap.1, hap.2⟩ hb0, ?_⟩
                refine .sl (by simp [Ctx.move]; exact (I.dom id b hb).1) ⟨_, _, rfl⟩ fun T zs hz => ?_
                rw [Ctx.move, List.getElem?_set_self (I.dom id b hb).1] at hz
                injection hz with hz; injection hz with z1 z2; subst z1 z2
                refine ⟨by simp; omega, fun _ => ⟨Γ.w.heap.size, grownCap Γ.w (len + m) c e2, A, e2, (0, 0), by simp [Ctx.move], rfl, hcap, heap_push_new _ _, by rw [hsz2]; omega⟩⟩
            · cases h
          · cases h
        · cases h
      · cases h
    · cases h
  · cases h

end Go.Ev
