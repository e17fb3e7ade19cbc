/- Joined: K115, Op, Op3, LFnCertified. No conditions. -/
import Derived.Test.YtafhipglhnfgnaaM17
import Derived.Test.YtafhipglhnfgnaaM4
import Derived.ChangeArms
import Derived.Deep.Slices
import Derived.Test.YtafhipglhnfgnaaFT
import Derived.OpenShut
import Derived.Below
import Derived.Carry
import Derived.ChangeShapes
import Derived.WideShapes
import Derived.Test.YtafhipglhnfgnaaM10
set_option linter.unusedSimpArgs false
set_option linter.unusedVariables false
set_option linter.unnecessarySimpa false
set_option maxHeartbeats 4000000
namespace Go.Proofs.Ytafhipglhnfgnaa.Ab
open Go.RowKit
section
variable {X : CallF} {h : Heap} {cv ev mv : Value} {l : List Int} {n : Nat} {es : List E} {m : List Cp}
theorem mok_nil {size : Int} (g : GOk size es) : MOk size es [] := ⟨g, fun i hi => by simp at hi⟩
open Classical in
theorem k_DrawRightMatch (hc : Rows h 1 cv (bys l)) (hl : l.length ≤ 1048576) : ∃ (n : Nat) (es : List E) (ev : Value) (m : List Cp) (mv : Value) (hh : Heap), C T X n_spec_DrawRightMatch [cv] h = some (.tuple ⟨[graphV n ev, mv]⟩, hh) ∧ GOk n es ∧ h <+: hh ∧ Own hh h.length hh.length 5 y_Edge ev (edges es) ∧ Own hh h.length hh.length 2 y_Couple mv (cps m) ∧ MOk n es m := by
  suffices hx : ∃ w hh, C T X n_spec_DrawRightMatch [cv] h = some (w, hh) ∧ ∃ (n : Nat) (es : List E) (ev : Value) (m : List Cp) (mv : Value), w = .tuple ⟨[graphV n ev, mv]⟩ ∧ GOk n es ∧ h <+: hh ∧ Own hh h.length hh.length 5 y_Edge ev (edges es) ∧ Own hh h.length hh.length 2 y_Couple mv (cps m) ∧ MOk n es m by
    obtain ⟨w, hh, c, n, es, ev, m, mv, rfl, r⟩ := hx
    exact ⟨n, es, ev, m, mv, hh, c, r⟩
  refine C_ex t_spec_DrawRightMatch rfl ?_
  unfold F_spec_DrawRightMatch
  obtain ⟨x0, c1⟩ := k_l01New (X := X) hc hl
  have d1 := dr_new hc hl (x := x0)
  obtain ⟨h1, hh1⟩ : ∃ h1 : Heap, h1 = h ++ [curB cv 0 x0] := ⟨_, rfl⟩
  rw [← hh1] at c1 d1
  have f1 : Fr' h.length h h1 := by rw [hh1]; exact Fr'.pre (List.prefix_append _ _)
  have hl1 : h1.length = h.length + 1 := by rw [hh1]; simp
  obtain ⟨n, es, ev, h2, c2, g, o, d2, f2⟩ := k_l08Graph (X := X) d1
  have hel := gok_len g
  obtain ⟨mv, m, h3, c3, om, hml, d3, f3⟩ := k_l09Match (X := X) (n := n) d2 o (by omega) (Nat.le_refl _) (by omega)
  have oe3 : Own h3 h1.length h2.length 5 y_Edge ev (edges es) := o.fr f3 (by omega) (Nat.le_refl _)
  have f13 := (f1.trans f2).trans f3
  have l2 := f2.len
  have l3 := f3.len
  have cm := k_spec_MatchOk (X := X) (size := (n : Int)) oe3.rows om.rows (by unfold lim; omega) (by omega)
  unfold graphV at c2 c3 cm
  by_cases q : MOk n es m
  · rw [decide_eq_true q] at cm
    simp only [c1, c2, c3, cm, zeros, fillAt, List.prefix_refl, go_sem]
    obtain ⟨hh, e, p, hcs⟩ := finish_cases (v := .tuple ⟨[.agg ⟨[.int .i64 (n : Nat), ev]⟩, mv]⟩) (dr_pre f13)
    rw [e]
    refine ⟨om.live, n, es, ev, m, mv, rfl, g, p, ?_⟩
    rcases hcs with rfl | ⟨hf, rfl⟩
    · exact ⟨oe3.wide (by omega) (by omega), om.wide (by omega) (Nat.le_refl _), q⟩
    · have hf' : prim ev = true ∧ prim mv = true := by
        rcases oe3.is with ⟨q1, _⟩ | ⟨c1, _, _, q1, _⟩ <;> rcases om.is with ⟨q2, _⟩ | ⟨c2, _, _, q2, _⟩ <;> rw [q1, q2] at hf <;> rw [q1, q2] <;> simp [flat, flat1, prim] at hf ⊢
      exact ⟨oe3.flatP hf'.1, om.flatP hf'.2, q⟩
  · rw [decide_eq_false q] at cm
    have p4 : h3 <+: h3 ++ ([⟨[], 2, y_Couple, true⟩] : Heap) := List.prefix_append _ _
    simp only [c1, c2, c3, cm, zeros, fillAt, List.prefix_refl, go_sem]
    have hd : ∀ hx : Heap, finish h (.tuple ⟨[.agg ⟨[.int .i64 (n : Nat), ev]⟩, .slice (some ⟨h3.length, 0, none⟩) 0 0]⟩, hx) = (.tuple ⟨[.agg ⟨[.int .i64 (n : Nat), ev]⟩, .slice (some ⟨h3.length, 0, none⟩) 0 0]⟩, hx) := fun hx => finish_deep (by simp [flat, flat1, prim])
    rw [hd]
    exact ⟨n, es, ev, [], _, rfl, g, (dr_pre f13).trans p4, (oe3.up p4).wide (by omega) (Nat.le_trans l3 (pre_len p4)), (Acc.new (h := h3) (sz := 2) (ty := y_Couple)).own.wide (by omega) (Nat.le_refl _), mok_nil g⟩
open Classical in
theorem k_spec_EdgeAt {size x y : Int} (he : Rows h 5 ev (edges es)) (hl : es.length ≤ lim) (g : GOk size es) : C T X n_spec_EdgeAt [graphV size ev, .int .i64 x, .int .i64 y] h = some (.int .i64 (edgeIx es x y), h) := by
  have cg := k_spec_GraphOk (X := X) (size := size) he hl
  rw [decide_eq_true g] at cg
  have ca := k_spec_l08At (X := X) (size := size) (x := x) (y := y) he hl
  refine C_go t_spec_EdgeAt rfl ?_
  unfold F_spec_EdgeAt
  unfold graphV at cg ca ⊢
  simp only [cg, ca, List.prefix_refl, go_sem]
theorem k_laws_worth {size : Int} (he : Rows h 5 ev (edges es)) (hm : Rows h 2 mv (cps m)) (hl : es.length ≤ lim) (hml : m.length ≤ 1048576) (g : MOk size es m) : C T X n_laws_worth [graphV size ev, mv] h = some (.int .i64 (worthL es m), h) := by
  have hgl := mok_len g
  have g11 := g.1.1
  have hwb := worthL_bnd g
  refine C_go t_laws_worth rfl ?_
  unfold F_laws_worth graphV
  simp only [go_sem]
  refine w_for m.length (fun i t loc h' => h' = h ∧ t 1 = mv ∧ loc 2 = some [.int .i64 size, ev] ∧ t 5 = .int .i64 (worthL es (m.take i)) ∧ t 6 = .int .i64 i) ⟨rfl, rfl, rfl, rfl, rfl⟩ ?_
  rintro i t loc h' hi ⟨rfl, t1, l2, t5, t6⟩
  simp only [t1, t6, hm.lnm, go_sem]
  refine w_open (by simp only [go_sem]; rfl) ?_ ?_ <;> intro hc
  · have hi1 : i < m.length := by omega
    have hw : IntKind.i64.wrap ((i : Int) + 1) = ((i + 1 : Nat) : Int) := w64 (by omega) (by omega)
    have hel := cp_el hm hi1
    have cat := k_spec_EdgeAt (X := X) (size := size) (x := (m.getD i c0).a) (y := (m.getD i c0).b) he hl g.1
    obtain ⟨k, h1, h2⟩ := ix_lt (g.2 i hi1).2.1
    rw [h1] at cat
    have hek := edge_el he h2
    have hWk := eok_w (gok_mem g.1 (getD_mem (d := e0) h2))
    have csc := k_spec_Scalar (X := X) (h := h') hWk
    have hsc : scalar (es.getD k e0).w1 (es.getD k e0).w2 (es.getD k e0).w3 = scAt es (m.getD i c0) := by unfold scAt; rw [h1]; rfl
    rw [hsc] at csc
    have hst := worthL_take (es := es) hi1
    have b1 := hwb i (by omega)
    have b2 := scAt_bnd g hi1
    have hw2 : IntKind.i64.wrap (worthL es (m.take i) + scAt es (m.getD i c0)) = worthL es (m.take (i + 1)) := by rw [hst]; exact w64 (by omega) (by omega)
    have hk0 : (k : Int) ≥ 0 := by omega
    unfold graphV at cat
    unfold edgeV edgeR at csc
    simp only [t1, l2, t5, t6, hel.1, hel.2.1, hel.2.2.2.1, hel.2.2.2.2, cat, hk0, hek.1, hek.2.2.1, csc, hw2, hw, Nat.zero_add, List.prefix_refl, go_sem]
    exact hi1
  · have hil : i = m.length := by omega
    subst hil
    rw [List.take_length] at t5
    simp only [t5, go_sem]
end
end Go.Proofs.Ytafhipglhnfgnaa.Ab
set_option linter.unusedSimpArgs false
set_option linter.unusedVariables false
set_option linter.unnecessarySimpa false
set_option maxHeartbeats 4000000
/- Arguments: what a reading of numbers, texts, bools, structs and slices of them tells, as an abstract memory of which nothing is one's own. No conditions. -/
namespace Go.Proofs.Ytafhipglhnfgnaa.Ab
open Go.RowKit
inductive CK where
  | int (k : IntKind)
  | bool
  | str
  | sl (e : List CK)
inductive Shape (h : Heap) : CK → Value → Prop
  | int (k : IntKind) (n : Int) (hw : (Lit.int k n).wf = true) : Shape h (.int k) (.int k n)
  | bool (b : Bool) : Shape h .bool (.bool b)
  | str (s : ByteArray) (hs : s.size ≤ maxLen) : Shape h .str (.string s)
  | sl (e : List CK) (v : Value) (rows : List (List Value)) (hr : Rows h e.length v rows) (hm : rows.length ≤ maxLen)
      (hk : ∀ r ∈ rows, ∀ (i : Nat) (k : CK) (x : Value), e[i]? = some k → r[i]? = some x → Shape h k x) : Shape h (.sl e) v
theorem Shape.up {h h' : Heap} (hp : h <+: h') {k : CK} {v : Value} (s : Shape h k v) : Shape h' k v := by
  induction s with
  | int k n hw => exact .int k n hw
  | bool b => exact .bool b
  | str s hs => exact .str s hs
  | sl e v rows hr hm hk ih => exact .sl e v rows (hr.up hp) hm ih
def fieldsK (P : Program) (g : TypeId → Option (List CK)) : Nat → List Field → Option (List CK)
  | _, [] => some []
  | off, f :: fs => match g f.type with
    | some ks => if f.offset = off ∧ ks.length = P.cellsOf f.type then (fieldsK P g (off + ks.length) fs).map (ks ++ ·) else none
    | none => none
def kindsOf (P : Program) : Nat → TypeId → Option (List CK)
  | 0, _ => none
  | n + 1, t => match P.underlying t with
    | some (.int k) => some [.int k]
    | some .bool => some [.bool]
    | some .string => some [.str]
    | some (.slice e) => match kindsOf P n e with
      | some ks => if ks.length = P.cellsOf e ∧ 0 < ks.length then some [.sl ks] else none
      | none => none
    | some (.struct fs) => match fieldsK P (kindsOf P n) 0 fs.toList with
      | some ks => if ks.length = P.cellsOf t then some ks else none
      | none => none
    | _ => none
def NoOwn (h : Heap) : Prop := ∀ (b : Nat) (blk : Blk), h[b]? = some blk → blk.own = false
theorem HRel.show {μ : Map} {h : Heap} {w : World} (k : HRel μ h w) (hn : NoOwn h) {blk : Blk} (ho : blk.own = false) (hp : 0 < blk.sz) {l : Loc} (hl : l.g < w.heap.size)
    (hc : ∀ (i : Nat) (v : Value), blk.cells[i]? = some v → ∃ v', w.cell? ⟨l.g, l.o + i, none⟩ = some v' ∧ VR1 μ h v v') :
    HRel (μ.to h.length l) (h ++ [blk]) w ∧ Up μ h (μ.to h.length l) (h ++ [blk]) ∧ NoOwn (h ++ [blk]) := by
  have up := Up.push μ h l blk
  have no : NoOwn (h ++ [blk]) := fun b b' hb => by
    rcases push_get hb with ⟨_, rfl⟩ | ⟨_, hb⟩
    · exact ho
    · exact hn _ _ hb
  refine ⟨⟨fun b' blk' hb' i v hv => ?_, fun b' blk' hb' => ?_, fun b' blk' hb' => ?_, fun b' blk' hb' ho' => ?_, fun b1 b2 blk1 blk2 h1 h2 h3 h4 => ?_⟩, up, no⟩
  · rcases push_get hb' with ⟨rfl, rfl⟩ | ⟨hlt, hb'⟩
    · obtain ⟨v', h1, h2⟩ := hc i v hv
      exact ⟨v', by rw [Map.to_same]; exact h1, h2.up up⟩
    · obtain ⟨v', h1, h2⟩ := k.cell b' blk' hb' i v hv
      exact ⟨v', by rw [Map.to_ne _ _ (by omega)]; exact h1, h2.up up⟩
  · rcases push_get hb' with ⟨rfl, rfl⟩ | ⟨hlt, hb'⟩
    · exact hp
    · exact k.pos _ _ hb'
  · rcases push_get hb' with ⟨rfl, rfl⟩ | ⟨hlt, hb'⟩
    · rw [Map.to_same]; exact hl
    · rw [Map.to_ne _ _ (by omega)]; exact k.lt _ _ hb'
  · rw [no _ _ hb'] at ho'; cases ho'
  · rw [no _ _ h1] at h3; cases h3
def Opens (w : World) (ks : List CK) (cs : List Value) : Prop := ∀ (h : Heap) (μ : Map), HRel μ h w → NoOwn h → ∃ h' μ' acs, h <+: h' ∧ Up μ h μ' h' ∧ HRel μ' h' w ∧ NoOwn h' ∧ All2 (VR0 μ' h') acs cs ∧ All2 (Shape h') ks acs
theorem Opens.nil {w : World} : Opens w [] [] := fun h μ H N => ⟨h, μ, [], List.prefix_refl _, Up.refl _ _, H, N, All2.nil, All2.nil⟩
theorem Opens.append {w : World} {ks1 ks2 : List CK} {cs1 cs2 : List Value} (o1 : Opens w ks1 cs1) (o2 : Opens w ks2 cs2) : Opens w (ks1 ++ ks2) (cs1 ++ cs2) := by
  intro h μ H N
  obtain ⟨h1, μ1, a1, p1, u1, H1, N1, v1, s1⟩ := o1 h μ H N
  obtain ⟨h2, μ2, a2, p2, u2, H2, N2, v2, s2⟩ := o2 h1 μ1 H1 N1
  exact ⟨h2, μ2, a1 ++ a2, p1.trans p2, u1.trans u2, H2, N2, (v1.imp fun _ _ k => k.up u2).append v2, (s1.imp fun _ _ k => k.up p2).append s2⟩
theorem Opens.one {w : World} {k : CK} {v : Value} (hp : prim v = true) (hs : ∀ h, Shape h k v) : Opens w [k] [v] := fun h μ H N =>
  ⟨h, μ, [v], List.prefix_refl _, Up.refl _ _, H, N, All2.cons (.prim _ hp) All2.nil, All2.cons (hs h) All2.nil⟩
theorem opens_fields {P : Program} {w : World} {g : TypeId → Option (List CK)} {cs : List Value} : ∀ (fs : List Field) (off : Nat) (ks : List CK), fieldsK P g off fs = some ks → off + ks.length ≤ cs.length →
    (∀ f ∈ fs, ∀ k, g f.type = some k → Opens w k ((cs.drop f.offset).take (P.cellsOf f.type))) → Opens w ks ((cs.drop off).take ks.length)
  | [], off, ks, h, _, _ => by simp [fieldsK] at h; subst h; simpa using Opens.nil
  | f :: fs, off, ks, h, hl, ho => by
    simp only [fieldsK] at h
    split at h
    · rename_i k hk
      split at h
      · rename_i hc
        obtain ⟨h1, h2⟩ := hc
        simp only [Option.map_eq_some_iff] at h
        obtain ⟨ks', h3, rfl⟩ := h
        simp only [List.length_append] at hl
        have o1 := ho f List.mem_cons_self k hk
        rw [h1, ← h2] at o1
        have o2 := opens_fields fs (off + k.length) ks' h3 (by omega) fun f hf => ho f (List.mem_cons_of_mem _ hf)
        have e : (cs.drop off).take (k ++ ks').length = (cs.drop off).take k.length ++ (cs.drop (off + k.length)).take ks'.length := by
          rw [List.length_append, List.take_add, List.drop_drop]
        rw [e]
        exact o1.append o2
      · cases h
    · cases h
theorem add_block (a : Addr) (n : Nat) : (a.add n).block = a.block := by unfold Addr.add; split <;> rfl
theorem opens_rows {w : World} {a : Addr} {e : List CK} {n : Nat} (hr : ∀ i, i < n → ∃ cs, cs.length = e.length ∧ (∀ j, j < e.length → w.cell? (a.add (i * e.length + j)) = cs[j]?) ∧ Opens w e cs) :
    ∀ (h : Heap) (μ : Map), HRel μ h w → NoOwn h → ∃ (h' : Heap) (μ' : Map) (rows : List (List Value)) (flat : List Value), h <+: h' ∧ Up μ h μ' h' ∧ HRel μ' h' w ∧ NoOwn h' ∧ rows.length = n ∧ (∀ r ∈ rows, All2 (Shape h') e r) ∧ All2 (VR0 μ' h') rows.flatten flat ∧ flat.length = n * e.length ∧ ∀ q, q < n * e.length → w.cell? (a.add q) = flat[q]? := by
  induction n with
  | zero => exact fun h μ H N => ⟨h, μ, [], [], List.prefix_refl _, Up.refl _ _, H, N, rfl, fun _ h => (by cases h), All2.nil, by simp, fun q hq => by omega⟩
  | succ n ih =>
    intro h μ H N
    obtain ⟨h1, μ1, rows, flat, p1, u1, H1, N1, l1, s1, v1, f1, g1⟩ := ih (fun i hi => hr i (by omega)) h μ H N
    obtain ⟨cs, c1, c2, c3⟩ := hr n (by omega)
    obtain ⟨h2, μ2, acs, p2, u2, H2, N2, v2, s2⟩ := c3 h1 μ1 H1 N1
    refine ⟨h2, μ2, rows ++ [acs], flat ++ cs, p1.trans p2, u1.trans u2, H2, N2, by simp [l1], fun r hr => ?_, ?_, ?_, fun q hq => ?_⟩
    · rcases List.mem_append.1 hr with hr | hr
      · exact (s1 r hr).imp fun _ _ k => k.up p2
      · rw [List.mem_singleton.1 hr]; exact s2
    · rw [List.flatten_append]
      simpa using (v1.imp fun _ _ k => k.up u2).append v2
    · rw [List.length_append, f1, c1, Nat.add_mul, Nat.one_mul]
    · rw [Nat.add_mul, Nat.one_mul] at hq
      by_cases hlt : q < n * e.length
      · rw [g1 q hlt, List.getElem?_append_left (by omega)]
      · have := c2 (q - n * e.length) (by omega)
        rw [show n * e.length + (q - n * e.length) = q by omega] at this
        rw [this, List.getElem?_append_right (by omega), f1]
theorem mem_index {fs : List Field} {f : Field} (h : f ∈ fs) : ∃ i : Nat, fs[i]? = some f := by
  obtain ⟨i, hi, e⟩ := List.mem_iff_getElem.1 h
  exact ⟨i, by rw [List.getElem?_eq_getElem hi, e]⟩
theorem row_of_flat {rows : List (List Value)} {sz : Nat} (hl : ∀ r ∈ rows, r.length = sz) {flat : List Value} {μ : Map} {h : Heap} (v : All2 (VR0 μ h) rows.flatten flat) {q : Nat} {x : Value} (hx : rows.flatten[q]? = some x) : ∃ y, flat[q]? = some y ∧ VR1 μ h x y := by
  obtain ⟨y, hy, k⟩ := v.get hx
  exact ⟨y, hy, .base _ _ k⟩
theorem opens_kinds {H : Type} {enc : TypeId × Value → H} {P : Program} {w : World} {spare : Nat → Bool} {held : Bool} (hsp : ∀ b, spare b = true) : ∀ (n : Nat) (t : TypeId) (ks : List CK), kindsOf P n t = some ks →
    ∀ (fuel : Nat) (cs : List Value) (x : DataW H × List MemPlace), DataW.trod enc P w 0 spare held fuel t cs = some x → Opens w ks cs
  | 0, t, ks, h => by cases h
  | n + 1, t, ks, h => by
    intro fuel cs x hx
    simp only [kindsOf] at h
    split at h
    · rename_i k ht
      cases h
      obtain ⟨m, rfl, _, hw⟩ := DataW.trod_int ht hx
      exact Opens.one rfl fun _ => .int k m hw
    · rename_i ht
      cases h
      obtain ⟨b, rfl, _⟩ := DataW.trod_bool ht hx
      exact Opens.one rfl fun _ => .bool b
    · rename_i ht
      cases h
      obtain ⟨b, rfl, _, hw⟩ := DataW.trod_string ht hx
      exact Opens.one rfl fun _ => .str b hw
    · rename_i e ht
      split at h
      · rename_i ke hke
        split at h
        · rename_i hc
          obtain ⟨hc1, hc2⟩ := hc
          cases h
          rcases Go.Deep.open_slice ht hx with ⟨rfl, _⟩ | ⟨a, len, cap, m, k, D, Pl, rfl, _, hlc, hcm, hm, _, hi⟩
          · exact Opens.one rfl fun _ => .sl ke _ [] Rows.nil (Nat.zero_le _) (fun _ h => by cases h)
          · rw [hsp, if_pos rfl] at hm
            subst hm
            have hrow : ∀ i, i < m → ∃ cs, cs.length = ke.length ∧ (∀ j, j < ke.length → w.cell? (a.add (i * ke.length + j)) = cs[j]?) ∧ Opens w ke cs := fun i him => by
              obtain ⟨cs', hc', ht'⟩ := hi i him
              obtain ⟨_, hcl, hat⟩ := World.cells?_some hc'
              rw [← hc1] at hcl hat
              refine ⟨cs', hcl, fun j hj => ?_, opens_kinds hsp n e ke hke k cs' _ ht'⟩
              rw [← Go.Deep.add_add]
              exact hat j hj
            by_cases hz : m = 0
            · subst hz
              obtain rfl : len = 0 := by omega
              exact fun h μ H N => ⟨h, μ, [.slice none 0 0], List.prefix_refl _, Up.refl _ _, H, N, All2.cons (.hollow a) All2.nil, All2.cons (.sl ke _ [] Rows.nil (Nat.zero_le _) (fun _ h => by cases h)) All2.nil⟩
            · intro h μ H N
              obtain ⟨h1, μ1, rows, flat, p1, u1, H1, N1, l1, s1, v1, f1, g1⟩ := opens_rows (n := len) (fun i hi => hrow i (by omega)) h μ H N
              have hsz : ∀ r ∈ rows, r.length = ke.length := fun r hr => (s1 r hr).1.symm
              obtain ⟨c0, q1, q2, _⟩ := hrow 0 (by omega)
              have hcell : w.cell? a = c0[0]? := by
                have := q2 0 hc2
                simpa [Addr.add] using this
              rw [List.getElem?_eq_getElem (by omega)] at hcell
              have hblk : ∃ cur et fr, w.heap[a.block]? = some (.cells cur et fr) ∧ a.spot = none := by
                unfold World.cell? at hcell
                split at hcell
                · rename_i cur et fr hb
                  split at hcell
                  · cases hcell
                  · rename_i hs
                    exact ⟨cur, et, fr, hb, by simpa using hs⟩
                · cases hcell
              obtain ⟨cur, et, fr, hb, hs⟩ := hblk
              have hlt : a.block < w.heap.size := (Array.getElem?_eq_some_iff.1 hb).1
              have ha : a = ⟨a.block, a.off, none⟩ := by cases a; simp_all
              have hadd : ∀ q, a.add q = ⟨a.block, a.off + q, none⟩ := fun q => by
                unfold Addr.add
                split
                · rename_i h0; subst h0; rw [Nat.add_zero]; exact ha
                · rfl
              obtain ⟨H2, u2, N2⟩ := H1.show N1 (blk := ⟨rows.flatten, ke.length, 0, false⟩) rfl hc2 (l := ⟨a.block, a.off, 0⟩) hlt (fun i v hv => by
                obtain ⟨y, hy, k⟩ := row_of_flat hsz v1 hv
                refine ⟨y, ?_, k⟩
                have hq : i < len * ke.length := by
                  have := (List.getElem?_eq_some_iff.1 hy).1
                  omega
                have := g1 i hq
                rw [hadd] at this
                rw [this]
                exact hy)
              have hfl : rows.flatten.length = len * ke.length := by rw [flatten_len hsz, l1]
              refine ⟨_, _, [.slice (some ⟨h1.length, 0, none⟩) len len], p1.trans (List.prefix_append _ _), u1.trans u2, H2, N2, All2.cons (.sl h1.length 0 len len _ ⟨rows.flatten, ke.length, 0, false⟩ (by simp) (Nat.le_refl _) (by simp only [Nat.zero_add, hfl]; exact Nat.le_refl _) (fun _ => ?_) rfl) All2.nil, All2.cons (.sl ke _ rows ?_ (by omega) (fun r hr i k x hk hx => ?_)) All2.nil⟩
              · refine ⟨a, m, rfl, hlc, hcm, .inr ?_, fun h => by cases h⟩
                rw [Map.to_same]
                exact ha
              · refine ⟨hsz, .inr ⟨h1.length, 0, len, ⟨rows.flatten, ke.length, 0, false⟩, by rw [l1], by simp, rfl, by simp [hfl], by omega, ?_⟩⟩
                rw [l1, ← hfl, List.drop_zero]
                exact List.take_length
              · exact ((s1 r hr).2 i k x hk hx).up (List.prefix_append _ _)
        · cases h
      · cases h
    · rename_i fs ht
      split at h
      · rename_i ks' hf
        split at h
        · rename_i hl
          cases h
          obtain ⟨xs, k, _, _, hlen, hxl, hfs⟩ := DataW.trod_struct ht hx
          have := opens_fields (w := w) (cs := cs) fs.toList 0 ks hf (by omega) (fun f hmem kf hkf => by
            obtain ⟨i, hi⟩ := mem_index hmem
            have hi' : fs[i]? = some f := by simpa using hi
            have h1 := hfs i f hi'
            have hil : i < xs.length := by rw [hxl]; exact (Array.getElem?_eq_some_iff.1 hi').1
            rw [List.getElem?_eq_getElem hil] at h1
            exact opens_kinds hsp n f.type kf hkf k _ _ h1)
          rw [List.drop_zero, List.take_of_length_le (by omega)] at this
          exact this
        · cases h
      · cases h
    · cases h
end Go.Proofs.Ytafhipglhnfgnaa.Ab
/- A law's call, from the arguments as they are read to the answer. No conditions. -/
namespace Go.Proofs.Ytafhipglhnfgnaa.Ab
open Go.RowKit
def isRow (P : Program) (t : TypeId) : Bool := match P.underlying t with
  | some (.struct _) => true
  | _ => false
def paramsK (P : Program) : List TypeId → Option (List (Bool × List CK))
  | [] => some []
  | t :: ts => match kindsOf P 12 t, paramsK P ts with
    | some ks, some ps => some ((isRow P t, ks) :: ps)
    | _, _ => none
def ArgOk (h : Heap) (p : Bool × List CK) (v : Value) : Prop := ∃ acs, All2 (Shape h) p.2 acs ∧ if p.1 = true then v = .agg ⟨acs⟩ else acs = [v]
theorem ArgOk.up {h h' : Heap} (hp : h <+: h') {p : Bool × List CK} {v : Value} (a : ArgOk h p v) : ArgOk h' p v := by
  obtain ⟨acs, h1, h2⟩ := a
  exact ⟨acs, h1.imp fun _ _ k => k.up hp, h2⟩
theorem HRel.empty {μ : Map} {w : World} : HRel μ [] w := ⟨fun b _ h => by simp at h, fun b _ h => by simp at h, fun b _ h => by simp at h, fun b _ h => by simp at h, fun b _ _ _ h => by simp at h⟩
theorem NoOwn.empty : NoOwn [] := fun b _ h => by simp at h
section
variable {H : Type} {enc : TypeId × Value → H} {P : Program} {W : World} {base : Nat}
theorem okWide_one {t : TypeId} {v : Value} {ks : List CK} {n : Nat} (hk : kindsOf P (n + 1) t = some ks) (hs : isRow P t = false) (h : Value.okWide P W .any base t v) : v.cells.toList = [v] := by
  unfold isRow at hs
  simp only [kindsOf] at hk
  unfold Value.okWide Cell.okWide Cell.ok at h
  cases hu : P.underlying t with
  | none => rw [hu] at hk; cases hk
  | some d =>
    rw [hu] at hk h hs
    cases d <;> simp only [Bool.true_eq_false] at hs <;> (try (cases hk; done)) <;> cases v <;> first | rfl | exact h.elim
theorem opens_args : ∀ (ts : List TypeId) (ps : List (Bool × List CK)) (vs : List Value) (ds : List (DataW H)) (pl : List MemPlace), paramsK P ts = some ps → DataW.TrodAll enc P W 0 (fun _ => true) true ts vs ds pl →
    (∀ (j : Nat) (t : TypeId) (v : Value), ts[j]? = some t → vs[j]? = some v → Value.okWide P W .any base t v) →
    ∀ (h : Heap) (μ : Map), HRel μ h W → NoOwn h → ∃ (h' : Heap) (μ' : Map) (avs : List Value), h <+: h' ∧ Up μ h μ' h' ∧ HRel μ' h' W ∧ NoOwn h' ∧ All2 (VR μ' h') avs vs ∧ All2 (ArgOk h') ps avs
  | [], ps, vs, ds, pl, hp, ht, _, h, μ, R, N => by
    simp [paramsK] at hp
    subst hp
    obtain ⟨rfl, _, _⟩ := Go.ChangeShapes.trodAll_nil ht
    exact ⟨h, μ, [], List.prefix_refl _, Up.refl _ _, R, N, All2.nil, All2.nil⟩
  | t :: ts, ps, vs, ds, pl, hp, ht, hw, h, μ, R, N => by
    simp only [paramsK] at hp
    split at hp
    · rename_i ks ps' hk hps
      cases hp
      obtain ⟨v, vs', d, ds', p, q, rfl, rfl, rfl, ⟨fuel, hf⟩, htr⟩ := Go.ChangeShapes.trodAll_cons ht
      obtain ⟨h1, μ1, acs, p1, u1, R1, N1, v1, s1⟩ := opens_kinds (fun _ => rfl) 12 t ks hk fuel _ _ hf h μ R N
      obtain ⟨h2, μ2, avs, p2, u2, R2, N2, v2, s2⟩ := opens_args ts ps' vs' ds' q hps htr (fun j t v h1 h2 => hw (j + 1) t v (by simpa using h1) (by simpa using h2)) h1 μ1 R1 N1
      have hv := hw 0 t v rfl rfl
      have vv : All2 (VR1 μ2 h2) acs v.cells.toList := v1.imp fun _ _ k => .base _ _ (k.up u2)
      cases hr : isRow P t with
      | true =>
        have hst : ∃ cs : Array Value, v = .agg cs := by
          unfold isRow at hr
          split at hr
          · rename_i fs hu
            obtain ⟨cs, hcs, _⟩ := Go.WideShapes.okWide_struct hu hv
            exact ⟨cs, hcs⟩
          · cases hr
        obtain ⟨⟨cs⟩, rfl⟩ := hst
        exact ⟨h2, μ2, .agg ⟨acs⟩ :: avs, p1.trans p2, u1.trans u2, R2, N2, All2.cons (.val _ _ (.agg _ _ vv)) v2, All2.cons ⟨acs, s1.imp fun _ _ k => k.up p2, by simp⟩ s2⟩
      | false =>
        have h1c := okWide_one hk hr hv
        rw [h1c] at vv
        have hal : acs.length = 1 := vv.1
        match acs, hal with
        | [av], _ =>
          exact ⟨h2, μ2, av :: avs, p1.trans p2, u1.trans u2, R2, N2, All2.cons (.val _ _ (.one _ _ (vv.2 0 av v rfl rfl))) v2, All2.cons ⟨[av], s1.imp fun _ _ k => k.up p2, by simp⟩ s2⟩
    · cases hp
theorem trodAll_below {W' : World} (hl : laidOutB P = true) : ∀ {ts : List TypeId} {vs : List Value} {ds : List (DataW H)} {pl : List MemPlace}, (ts.all fun t => P.readableRec t && decide (t < P.types.size)) = true → DataW.TrodAll enc P W 0 (fun _ => true) true ts vs ds pl →
    Below W.heap.size W W' → (∀ x ∈ pl, x.block < W.heap.size) → DataW.TrodAll enc P W' 0 (fun b => decide (b < W.heap.size)) true ts vs ds pl
  | [], vs, ds, pl, _, h, _, _ => by
    obtain ⟨rfl, rfl, rfl⟩ := Go.ChangeShapes.trodAll_nil h
    rfl
  | t :: ts, vs, ds, pl, hr, h, hb, hlt => by
    obtain ⟨v, vs', d, ds', p, q, rfl, rfl, rfl, h1, h2⟩ := Go.ChangeShapes.trodAll_cons h
    simp only [List.all_cons, Bool.and_eq_true, decide_eq_true_eq] at hr
    exact ⟨p, q, Below.trod hl hr.1.1 hr.1.2 h1 hb (fun x hx => hlt x (List.mem_append_left _ hx)), trodAll_below hl (by simpa using hr.2) h2 hb (fun x hx => hlt x (List.mem_append_right _ hx)), rfl⟩
end
def noX : CallF := fun _ _ _ => none
theorem law_calls {H : Type} {enc : TypeId × Value → H} {P : Program} {W : World} {f : FuncId} {ts : List TypeId} {ps : List (Bool × List CK)} {X : CallF} (sound : ∀ n, SoundC P W (call T X n)) (hp : paramsK P ts = some ps)
    (law : ∀ (h : Heap) (avs : List Value), All2 (ArgOk h) ps avs → C T X f avs h = some (.bool true, h))
    {base : Nat} {args : Array Value} {ds : List (DataW H)} {pl : List MemPlace} (ht : DataW.TrodAll enc P W 0 (fun _ => true) true ts args.toList ds pl)
    (hw : ∀ (j : Nat) (t : TypeId) (v : Value), ts[j]? = some t → args.toList[j]? = some v → Value.okWide P W .any base t v) :
    Calls P f args W fun e W' => e = .returned (.bool true) ∧ Below W.heap.size W W' := by
  obtain ⟨h, μ, avs, _, _, R, N, va, sa⟩ := opens_args ts ps args.toList ds pl hp ht hw [] (fun _ => ⟨0, 0, 0⟩) HRel.empty NoOwn.empty
  obtain ⟨n, hn⟩ := C_to T X (law h avs sa)
  obtain ⟨_, hc⟩ := sound n f avs h _ _ hn
  have hG : Gd W μ h W := ⟨Nat.le_refl _, fun g _ => ⟨rfl, fun ⟨b, blk, hb, ho, _⟩ => by rw [N b blk hb] at ho; cases ho⟩⟩
  have := hc μ W args.toList R hG va
  refine this.mono fun e W' hq => ?_
  obtain ⟨v', μ', rfl, h1, h2, h3⟩ := hq
  refine ⟨by rw [h1.bool], h3.frame.os, h3.frame.tape, h3.frame.output, h3.frame.size, fun k hk => h3.frame.block k hk ?_⟩
  rintro ⟨b, blk, hb, ho, _⟩
  rw [N b blk hb] at ho
  cases ho
end Go.Proofs.Ytafhipglhnfgnaa.Ab
/- Arguments taken apart: what a shown argument is, kind by kind. No conditions. -/
namespace Go.Proofs.Ytafhipglhnfgnaa.Ab
open Go.RowKit
theorem All2.nil_inv {α β : Type} {R : α → β → Prop} {ys : List β} (h : All2 R [] ys) : ys = [] := by
  have := h.1
  cases ys with
  | nil => rfl
  | cons y ys => simp at this
theorem All2.cons_inv {α β : Type} {R : α → β → Prop} {x : α} {xs : List α} {ys : List β} (h : All2 R (x :: xs) ys) : ∃ y ys', ys = y :: ys' ∧ R x y ∧ All2 R xs ys' := by
  have := h.1
  cases ys with
  | nil => simp at this
  | cons y ys =>
    refine ⟨y, ys, rfl, h.2 0 x y rfl rfl, by simpa using this, fun i a b ha hb => h.2 (i + 1) a b (by simpa using ha) (by simpa using hb)⟩
section
variable {h : Heap} {v : Value}
theorem wf64 {n : Int} (hw : (Lit.int .i64 n).wf = true) : I64 n := by
  have h : IntKind.i64.min ≤ n ∧ n ≤ IntKind.i64.max := by simpa [Lit.wf] using hw
  exact ⟨h.1, h.2⟩
theorem Shape.int_inv (s : Shape h (.int .i64) v) : ∃ n, v = .int .i64 n ∧ I64 n := by
  cases s with
  | int k n hw => exact ⟨n, rfl, wf64 hw⟩
theorem Shape.bool_inv (s : Shape h .bool v) : ∃ b, v = .bool b := by
  cases s with
  | bool b => exact ⟨b, rfl⟩
theorem Shape.str_inv (s : Shape h .str v) : ∃ b, v = .string b ∧ b.size ≤ maxLen := by
  cases s with
  | str b hs => exact ⟨b, rfl, hs⟩
theorem Shape.sl_inv {e : List CK} (s : Shape h (.sl e) v) : ∃ rows, Rows h e.length v rows ∧ rows.length ≤ maxLen ∧ ∀ r ∈ rows, All2 (Shape h) e r := by
  cases s with
  | sl e v rows hr hm hk => exact ⟨rows, hr, hm, fun r hrm => ⟨(hr.len r hrm).symm, fun i k x h1 h2 => hk r hrm i k x h1 h2⟩⟩
theorem rows_map {α : Type} {f : α → List Value} {Q : α → Prop} : ∀ {rows : List (List Value)}, (∀ r ∈ rows, ∃ a, r = f a ∧ Q a) → ∃ l : List α, rows = l.map f ∧ ∀ a ∈ l, Q a
  | [], _ => ⟨[], rfl, fun _ h => by cases h⟩
  | r :: rows, hr => by
    obtain ⟨a, ha, qa⟩ := hr r List.mem_cons_self
    obtain ⟨l, hl, ql⟩ := rows_map (fun r h => hr r (List.mem_cons_of_mem _ h))
    exact ⟨a :: l, by simp [ha, hl], fun b hb => by
      rcases List.mem_cons.1 hb with rfl | hb
      · exact qa
      · exact ql b hb⟩
theorem Shape.ints_inv (s : Shape h (.sl [.int .i64]) v) : ∃ l : List Int, Rows h 1 v (ints l) ∧ l.length ≤ maxLen ∧ ∀ n ∈ l, I64 n := by
  obtain ⟨rows, hr, hm, hk⟩ := s.sl_inv
  obtain ⟨l, rfl, hl⟩ := rows_map (f := fun n : Int => [Value.int .i64 n]) (Q := I64) (rows := rows) (fun r hrm => by
    obtain ⟨x, r', rfl, hx, h2⟩ := (hk r hrm).cons_inv
    obtain rfl := h2.nil_inv
    obtain ⟨n, rfl, hn⟩ := hx.int_inv
    exact ⟨n, rfl, hn⟩)
  exact ⟨l, hr, by simpa using hm, hl⟩
end
theorem ArgOk.row {h : Heap} {ks : List CK} {v : Value} (a : ArgOk h (true, ks) v) : ∃ acs, All2 (Shape h) ks acs ∧ v = .agg ⟨acs⟩ := by
  obtain ⟨acs, h1, h2⟩ := a
  exact ⟨acs, h1, by simpa using h2⟩
theorem ArgOk.cell {h : Heap} {k : CK} {v : Value} (a : ArgOk h (false, [k]) v) : Shape h k v := by
  obtain ⟨acs, h1, h2⟩ := a
  obtain ⟨x, r, rfl, hx, h3⟩ := h1.cons_inv
  obtain rfl := h3.nil_inv
  obtain rfl : x = v := by simpa using h2
  exact hx
theorem trodAll_len {H : Type} {enc : TypeId × Value → H} {P : Program} {W : World} {spare : Nat → Bool} {held : Bool} : ∀ {ts : List TypeId} {vs : List Value} {ds : List (DataW H)} {pl : List MemPlace}, DataW.TrodAll enc P W 0 spare held ts vs ds pl → ds.length = ts.length
  | [], vs, ds, pl, h => by
    obtain ⟨_, rfl, _⟩ := Go.ChangeShapes.trodAll_nil h
    rfl
  | t :: ts, vs, ds, pl, h => by
    obtain ⟨v, vs', d, ds', p, q, rfl, rfl, rfl, _, h2⟩ := Go.ChangeShapes.trodAll_cons h
    simp [trodAll_len h2]
theorem len1 {α : Type} {l : List α} (h : l.length = 1) : ∃ a, l = [a] := List.length_eq_one_iff.1 h
theorem len2 {α : Type} {l : List α} (h : l.length = 2) : ∃ a b, l = [a, b] := by
  match l, h with
  | [a, b], _ => exact ⟨a, b, rfl⟩
theorem len3 {α : Type} {l : List α} (h : l.length = 3) : ∃ a b c, l = [a, b, c] := by
  match l, h with
  | [a, b, c], _ => exact ⟨a, b, c, rfl⟩
theorem len4 {α : Type} {l : List α} (h : l.length = 4) : ∃ a b c d, l = [a, b, c, d] := by
  match l, h with
  | [a, b, c, d], _ => exact ⟨a, b, c, d, rfl⟩
end Go.Proofs.Ytafhipglhnfgnaa.Ab
set_option linter.unusedSimpArgs false
set_option linter.unusedVariables false
set_option linter.unnecessarySimpa false
set_option maxHeartbeats 4000000
namespace Go.Proofs.Ytafhipglhnfgnaa.Ab
open Go.RowKit
section
variable {h : Heap} {v : Value}
theorem Shape.edges_inv (s : Shape h (.sl [.int .i64, .int .i64, .int .i64, .int .i64, .int .i64]) v) : ∃ l : List E, Rows h 5 v (edges l) ∧ l.length ≤ maxLen ∧ ∀ e ∈ l, I64 e.a ∧ I64 e.b ∧ I64 e.w1 ∧ I64 e.w2 ∧ I64 e.w3 := by
  obtain ⟨rows, hr, hm, hk⟩ := s.sl_inv
  obtain ⟨l, rfl, hl⟩ := rows_map (f := edgeR) (Q := fun e => I64 e.a ∧ I64 e.b ∧ I64 e.w1 ∧ I64 e.w2 ∧ I64 e.w3) (rows := rows) (fun r hrm => by
    obtain ⟨x, r', rfl, hx, h2⟩ := (hk r hrm).cons_inv
    obtain ⟨y, r', rfl, hy, h2⟩ := h2.cons_inv
    obtain ⟨z, r', rfl, hz, h2⟩ := h2.cons_inv
    obtain ⟨u, r', rfl, hu, h2⟩ := h2.cons_inv
    obtain ⟨w, r', rfl, hw, h2⟩ := h2.cons_inv
    obtain rfl := h2.nil_inv
    obtain ⟨a, rfl, ha⟩ := hx.int_inv
    obtain ⟨b, rfl, hb⟩ := hy.int_inv
    obtain ⟨c, rfl, hc⟩ := hz.int_inv
    obtain ⟨d, rfl, hd⟩ := hu.int_inv
    obtain ⟨e, rfl, he⟩ := hw.int_inv
    exact ⟨⟨a, b, c, d, e⟩, rfl, ha, hb, hc, hd, he⟩)
  exact ⟨l, hr, by simpa using hm, hl⟩
theorem ArgOk.graph (a : ArgOk h (true, [.int .i64, .sl [.int .i64, .int .i64, .int .i64, .int .i64, .int .i64]]) v) : ∃ size ev es, v = graphV size ev ∧ I64 size ∧ Rows h 5 ev (edges es) ∧ es.length ≤ maxLen := by
  obtain ⟨acs, k, rfl⟩ := a.row
  obtain ⟨v0, r, rfl, k0, k⟩ := k.cons_inv
  obtain ⟨v1, r, rfl, k1, k⟩ := k.cons_inv
  obtain rfl := k.nil_inv
  obtain ⟨n, rfl, hn⟩ := k0.int_inv
  obtain ⟨es, he, hm, _⟩ := k1.edges_inv
  exact ⟨n, v1, es, rfl, hn, he, hm⟩
def AqOk (x : Aq) : Prop := I64 x.op ∧ I64 x.a ∧ I64 x.b ∧ I64 x.w1 ∧ I64 x.w2 ∧ I64 x.w3
theorem ArgOk.ask (a : ArgOk h (true, [.int .i64, .int .i64, .int .i64, .int .i64, .int .i64, .int .i64]) v) : ∃ x : Aq, v = .agg ⟨aqR x⟩ ∧ AqOk x := by
  obtain ⟨acs, k, rfl⟩ := a.row
  obtain ⟨v0, r, rfl, k0, k⟩ := k.cons_inv
  obtain ⟨v1, r, rfl, k1, k⟩ := k.cons_inv
  obtain ⟨v2, r, rfl, k2, k⟩ := k.cons_inv
  obtain ⟨v3, r, rfl, k3, k⟩ := k.cons_inv
  obtain ⟨v4, r, rfl, k4, k⟩ := k.cons_inv
  obtain ⟨v5, r, rfl, k5, k⟩ := k.cons_inv
  obtain rfl := k.nil_inv
  obtain ⟨n0, rfl, h0⟩ := k0.int_inv
  obtain ⟨n1, rfl, h1⟩ := k1.int_inv
  obtain ⟨n2, rfl, h2⟩ := k2.int_inv
  obtain ⟨n3, rfl, h3⟩ := k3.int_inv
  obtain ⟨n4, rfl, h4⟩ := k4.int_inv
  obtain ⟨n5, rfl, h5⟩ := k5.int_inv
  exact ⟨⟨n0, n1, n2, n3, n4, n5⟩, rfl, h0, h1, h2, h3, h4, h5⟩
end
end Go.Proofs.Ytafhipglhnfgnaa.Ab
set_option linter.unusedSimpArgs false
set_option linter.unusedVariables false
set_option linter.unnecessarySimpa false
set_option maxHeartbeats 4000000
namespace Go.Proofs.Ytafhipglhnfgnaa.Ab
open Go.RowKit
section
variable {X : CallF} {h : Heap} {cv : Value} {l : List Int}
theorem k_big (hc : Rows h 1 cv (bys l)) : C T X n_laws_big [cv] h = some (.bool (decide ((l.length : Int) > 1048576)), h) := by
  refine C_go t_laws_big rfl ?_
  unfold F_laws_big
  have hln : lnV h cv = some (.int .i64 (l.length : Int)) := by rw [hc.ln, bys_len]
  simp only [hln, go_sem]
theorem Shape.bytes_inv {v : Value} (s : Shape h (.sl [.int .u8]) v) : ∃ l : List Int, Rows h 1 v (bys l) := by
  obtain ⟨rows, hr, hm, hk⟩ := s.sl_inv
  obtain ⟨l, rfl, hl⟩ := rows_map (f := fun n : Int => [Value.int .u8 n]) (Q := fun _ => True) (rows := rows) (fun r hrm => by
    obtain ⟨x, r', rfl, hx, h2⟩ := (hk r hrm).cons_inv
    obtain rfl := h2.nil_inv
    cases hx with
    | int k n hw => exact ⟨n, rfl, trivial⟩)
  exact ⟨l, hr⟩
theorem pf_bnd {size : Int} {es : List E} {ys : List Int} {gs : List Gp} (p : PfOk size es ys gs) : PfBnd ys gs := by
  have f := pfOk_fit p
  refine ⟨by have := f.yl; omega, by have := f.gl; omega, fun g hg => ?_⟩
  obtain ⟨i, hi, rfl⟩ := mem_getD (d := g0) hg
  have := (f.g i hi).2
  omega
open Classical in
theorem l_Certified (hc : Rows h 1 cv (bys l)) : C T X n_laws_FnCertified [cv] h = some (.bool true, h) := by
  refine C_go t_laws_FnCertified rfl ?_
  unfold F_laws_FnCertified
  have cb := k_big (X := X) hc
  by_cases hz : (l.length : Int) > 1048576
  · simp only [cb, hz, go_sem]
  obtain ⟨n, es, ev, h1, c1, g, p1, oe⟩ := k_DrawRightGraph (X := X) hc (by omega)
  have hn : n ≤ 9 := by have := g.1; omega
  have hel := gok_len g
  have hell : es.length ≤ lim := by unfold lim; omega
  obtain ⟨h2, mv, yv, gv, m, ys, gs, c2, p2, om, oy, og, ct⟩ := k_spec_Solve (X := X) oe.rows g hn (by omega)
  obtain ⟨n', es', ev', m', mv', h3, c3, g', p3, oe', om', mk'⟩ := k_DrawRightMatch (X := X) (hc.up (p1.trans p2)) (by omega)
  have he3 := oe.rows.up (p2.trans p3)
  have hm3 := om.up p3
  have hy3 := oy.up p3
  have hg3 := og.up p3
  have hml : m.length ≤ 1048576 := by have := mok_len ct.2.1; omega
  have hml' : m'.length ≤ 1048576 := by have := mok_len mk'; have := g'.1; omega
  have bd := pf_bnd ct.1
  have k1 := k_impl_Certifies (X := X) (size := (n : Int)) he3 hm3 hy3 hg3 hell hml bd
  have k2 := k_impl_Bound (X := X) (size := (n : Int)) he3 hy3 hg3 hell bd
  have k3 := k_laws_worth (X := X) (size := (n : Int)) he3 hm3 hell hml ct.2.1
  have k4 := k_spec_MatchOk (X := X) (size := (n : Int)) he3 om'.rows hell hml'
  have k5 := k_impl_Certifies (X := X) (size := (n : Int)) he3 om'.rows hy3 hg3 hell hml' bd
  rw [decide_eq_true ct] at k1
  have hb : boundL (n : Int) es ys gs = worthL es m := by
    unfold boundL
    rw [if_pos ct.1, ← ct.2.2, Int.mul_tdiv_cancel_left _ (by omega)]
  rw [hb] at k2
  unfold graphV proofV at *
  by_cases q : MOk (n : Int) es m'
  · rw [decide_eq_true q] at k4
    have k6 := k_laws_worth (X := X) (size := (n : Int)) he3 om'.rows hell hml' q
    unfold graphV at k6
    by_cases w : worthL es m' = worthL es m
    · have hcc : CertOk (n : Int) es m' ys gs := ⟨ct.1, q, by rw [w]; exact ct.2.2⟩
      rw [decide_eq_true hcc] at k5
      simp only [cb, hz, c1, c2, c3, k1, k2, k3, k4, k5, k6, w, zeros, fillAt, List.prefix_refl, go_sem]
      exact finish_flat rfl ((p1.trans p2).trans p3)
    · have hcc : ¬ CertOk (n : Int) es m' ys gs := fun k => w (by have := k.2.2; have := ct.2.2; omega)
      rw [decide_eq_false hcc] at k5
      simp only [cb, hz, c1, c2, c3, k1, k2, k3, k4, k5, k6, w, zeros, fillAt, List.prefix_refl, go_sem]
      exact finish_flat rfl ((p1.trans p2).trans p3)
  · rw [decide_eq_false q] at k4
    simp only [cb, hz, c1, c2, c3, k1, k2, k3, k4, zeros, fillAt, List.prefix_refl, go_sem]
    exact finish_flat rfl ((p1.trans p2).trans p3)
end
def ps_FnCertified : List (Bool × List CK) := [(false, [.sl [.int .u8]])]
theorem law_FnCertified (h : Heap) (avs : List Value) (ha : All2 (ArgOk h) ps_FnCertified avs) : C T noX n_laws_FnCertified avs h = some (.bool true, h) := by
  obtain ⟨v0, r, rfl, k0, ha⟩ := ha.cons_inv
  obtain rfl := ha.nil_inv
  obtain ⟨l, hl⟩ := k0.cell.bytes_inv
  exact l_Certified hl
end Go.Proofs.Ytafhipglhnfgnaa.Ab
