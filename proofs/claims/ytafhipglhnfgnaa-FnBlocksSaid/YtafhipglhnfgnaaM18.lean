/- Joined: K114, K20, Op, Op3, K116, K118, K119, P5, K30. No conditions. -/
import Derived.Test.YtafhipglhnfgnaaM16
import Derived.Test.YtafhipglhnfgnaaM17
import Derived.Test.YtafhipglhnfgnaaM12
import Derived.Test.YtafhipglhnfgnaaM4
import Derived.ChangeArms
import Derived.Deep.Slices
import Derived.Test.YtafhipglhnfgnaaFT
import Derived.OpenShut
import Derived.Below
import Derived.Carry
import Derived.ChangeShapes
import Derived.WideShapes
import Derived.Test.YtafhipglhnfgnaaM10
import Derived.Test.YtafhipglhnfgnaaM13
set_option linter.unusedSimpArgs false
set_option linter.unusedVariables false
set_option linter.unnecessarySimpa false
set_option maxHeartbeats 4000000
namespace Go.Proofs.Ytafhipglhnfgnaa.Ab
open Go.RowKit
section
variable {g g' : Tags} {h h' : Heap} {b sz : Nat} {τ : Tg} {ty : TypeId} {v : Value} {rws new : List (List Value)}
theorem Has.pushs (a : Has g h τ sz ty v rws) (ok : TagOk b g h) (hb : b < h.length) (hn : ∀ r ∈ new, r.length = sz) (h1 : new ≠ []) (hl : rws.length + new.length ≤ lim) :
    ∃ v' h' g', appLW h sz ty new.length v (some new.flatten) = some (v', h') ∧ Tn b (· = τ) g h g' h' ∧ h'[b]? = h[b]? ∧ Has g' h' τ sz ty v' (rws ++ new) ∧ ∀ c τ', g' c = some τ' → g c = some τ' ∨ c = h.length := by
  rcases a.own with ⟨rfl, rfl⟩ | ⟨c, hc1, h2, o⟩
  · have o : Own h h.length h.length sz ty nilV [] := Own.nil
    obtain ⟨v', h', e1, e2, e3, e4, e5⟩ := push_is o (Nat.le_refl _) new hn h1 (by simpa using hl)
    rcases e4 with ⟨_, t1, t2, t3⟩ | ⟨q, _⟩
    · have nb : ∀ x, x < h.length → h'[x]? = h[x]? := fun x hx => e3 x hx (.inr (Nat.zero_le _))
      refine ⟨v', h', fun x => if x = h.length then some τ else g x, e1, ⟨e2, fun x hx _ _ => nb x hx, fun x t _ q => ?_, fun x t hx q => ?_, fun x t q => ?_⟩, nb b hb, ⟨e5.len, ?_⟩, fun x t q => ?_⟩
      · show (if x = h.length then some τ else g x) = some t
        rw [if_neg (by have := (ok x t q).2; omega)]
        exact q
      · have q' : (if x = h.length then some τ else g x) = some t := q
        rw [if_neg (by omega)] at q'
        exact q'
      · have q' : (if x = h.length then some τ else g x) = some t := q
        by_cases e : x = h.length
        · subst e; exact ⟨by omega, by omega⟩
        · rw [if_neg e] at q'
          have := ok x t q'
          exact ⟨this.1, by omega⟩
      · rcases e5.is with ⟨_, q⟩ | ⟨c', l1, l2, l3, l4⟩
        · simp at q; exact absurd q h1
        · have : c' = h.length := by omega
          subst this; exact .inr ⟨h.length, if_pos rfl, l3, l4⟩
      · have q' : (if x = h.length then some τ else g x) = some t := q
        by_cases e : x = h.length
        · exact .inr e
        · rw [if_neg e] at q'; exact .inl q'
    · exact absurd rfl q
  · obtain ⟨v', h', e1, e2, e3, e4, e5⟩ := push_is o (by have := (ok c τ hc1).2; omega) new hn h1 hl
    have hcb := ok c τ hc1
    have tv : tlo v = c ∧ thi v = c + 1 := by rw [h2]; exact ⟨rfl, rfl⟩
    rcases e4 with ⟨q, _⟩ | ⟨_, t1, t2, t3⟩
    · rw [h2] at q; cases q
    · have nb : ∀ x, x < h.length → x ≠ c → h'[x]? = h[x]? := fun x hx hne => e3 x hx (by omega)
      refine ⟨v', h', g, e1, ⟨e2, fun x hx _ q => nb x hx fun e => ?_, fun _ _ _ q => q, fun _ _ _ q => q, fun x t q => by rw [t1]; exact ok x t q⟩, nb b hb (by omega), ⟨e5.len, ?_⟩, fun x t q => .inl q⟩
      · subst e; exact q τ hc1 rfl
      · rcases e5.is with ⟨_, q⟩ | ⟨c', l1, l2, l3, l4⟩
        · simp at q; exact absurd q.2 h1
        · have : c' = c := by omega
          subst this; exact .inr ⟨c', hc1, l3, l4⟩
theorem Has.same (a : Has g h τ sz ty v rws) (ok : TagOk b g h) (s : Same b (b + 1) h h') : Has g h' τ sz ty v rws ∧ TagOk b g h' := by
  refine ⟨⟨a.len, ?_⟩, fun c t q => by rw [s.len]; exact ok c t q⟩
  rcases a.is with q | ⟨c, h1, h2, h3⟩
  · exact .inl q
  · have := (ok c τ h1).1
    exact .inr ⟨c, h1, h2, by rw [s.blk c (by omega)]; exact h3⟩
end
section
variable {X : CallF} {B h : Heap} {b : Nat} {cv : Value} {l : List Int} {n : Nat} {es : List E} {ev : Value}
structure Ms (B h : Heap) (b : Nat) (cv : Value) (l : List Int) (h' : Heap) (g : Tags) (mv uv : Value) (ms : List Cp) (us : List Int) : Prop where
  d : Dr B b cv l h'
  f : Fr' b h h'
  ok : TagOk b g h'
  hi : ∀ c τ, g c = some τ → h.length ≤ c
  m : Has g h' (.lk 0) 2 y_Couple mv (cps ms)
  u : Has g h' (.rg 0) 1 y_int uv (ints us)
theorem Ms.same {h' h2 : Heap} {g : Tags} {mv uv : Value} {ms : List Cp} {us : List Int} (M : Ms B h b cv l h' g mv uv ms us) (s : Same b (b + 1) h' h2) (d2 : Dr B b cv l h2) : Ms B h b cv l h2 g mv uv ms us :=
  ⟨d2, M.f.trans (Fr'.same s), (M.m.same M.ok s).2, M.hi, (M.m.same M.ok s).1, (M.u.same M.ok s).1⟩
theorem Ms.turn {h' h2 : Heap} {g g' : Tags} {mv uv mv' uv' : Value} {ms ms' : List Cp} {us us' : List Int} {T : Tg → Prop} (d0 : Dr B b cv l h) (M : Ms B h b cv l h' g mv uv ms us) (e : Tn b T g h' g' h2) (hb : h2[b]? = h'[b]?) (hg : ∀ c τ, g' c = some τ → g c = some τ ∨ c = h'.length) (hm : Has g' h2 (.lk 0) 2 y_Couple mv' (cps ms')) (hu : Has g' h2 (.rg 0) 1 y_int uv' (ints us')) : Ms B h b cv l h2 g' mv' uv' ms' us' := by
  have F2 : Fr' b h h2 := ⟨Nat.le_trans M.f.len e.len, fun c hc hne => by
    rw [e.blk c (Nat.lt_of_lt_of_le hc M.f.len) hne fun τ q => by have := M.hi c τ q; omega]
    exact M.f.old c hc hne⟩
  obtain ⟨i, x, hi, hc⟩ := M.d.cur
  refine ⟨d0.same F2 ⟨i, x, hi, by rw [hb]; exact hc⟩, F2, e.ok, fun c τ q => ?_, hm, hu⟩
  rcases hg c τ q with q | q
  · exact M.hi c τ q
  · rw [q]; exact M.f.len
theorem Ms.pushM {h' : Heap} {g : Tags} {mv uv : Value} {ms : List Cp} {us : List Int} (d0 : Dr B b cv l h) (M : Ms B h b cv l h' g mv uv ms us) (a c : Int) (hl : ms.length + 1 ≤ lim) : ∃ mv' h2 g', appLW h' 2 y_Couple 1 mv (some [.int .i64 a, .int .i64 c]) = some (mv', h2) ∧ Ms B h b cv l h2 g' mv' uv (ms ++ [⟨a, c⟩]) us := by
  obtain ⟨mv', h2, g', e1, e2, e3, e4, e5⟩ := M.m.pushs M.ok M.d.lt (new := [cpR ⟨a, c⟩]) (fun r hr => by rw [List.mem_singleton.1 hr]; rfl) (by simp) (by rw [List.length_map]; exact hl)
  have e4' : Has g' h2 (.lk 0) 2 y_Couple mv' (cps (ms ++ [⟨a, c⟩])) := by simpa [cps] using e4
  exact ⟨mv', h2, g', e1, M.turn d0 e2 e3 e5 e4' (M.u.tn M.ok e2 (by simp))⟩
end
end Go.Proofs.Ytafhipglhnfgnaa.Ab
set_option linter.unusedSimpArgs false
set_option linter.unusedVariables false
set_option linter.unnecessarySimpa false
set_option maxHeartbeats 4000000
namespace Go.Proofs.Ytafhipglhnfgnaa.Ab
open Go.RowKit
section
variable {X : CallF} {h : Heap} {ev mv nv : Value} {es : List E} {m n : List Cp} {size : Int} {c : Cp}
theorem OwnLLs.any {h : Heap} {lo hi : Nat} {tyO tyI : TypeId} {ll : List (List Int)} {vs : List Value} {v : Value} (o : OwnLLs h lo hi tyO tyI v ll vs) {i : Nat} (hi1 : i < ll.length) : vs.getD i nilV = nilV ∨ (lo ≤ tlo (vs.getD i nilV) ∧ thi (vs.getD i nilV) ≤ hi) := by
  rcases (o.ins i hi1).within with h | ⟨h1, h2, _⟩
  · exact .inl h
  · exact .inr ⟨h1, h2⟩
end
end Go.Proofs.Ytafhipglhnfgnaa.Ab
set_option linter.unusedSimpArgs false
set_option linter.unusedVariables false
set_option linter.unnecessarySimpa false
set_option maxHeartbeats 4000000
/- Arguments: what a reading of numbers, texts, bools, structs and slices of them tells, as an abstract memory of which nothing is one's own. No conditions. -/
namespace Go.Proofs.Ytafhipglhnfgnaa.Ab
open Go.RowKit
inductive CK where
  | int (k : IntKind)
  | bool
  | str
  | sl (e : List CK)
inductive Shape (h : Heap) : CK → Value → Prop
  | int (k : IntKind) (n : Int) (hw : (Lit.int k n).wf = true) : Shape h (.int k) (.int k n)
  | bool (b : Bool) : Shape h .bool (.bool b)
  | str (s : ByteArray) (hs : s.size ≤ maxLen) : Shape h .str (.string s)
  | sl (e : List CK) (v : Value) (rows : List (List Value)) (hr : Rows h e.length v rows) (hm : rows.length ≤ maxLen)
      (hk : ∀ r ∈ rows, ∀ (i : Nat) (k : CK) (x : Value), e[i]? = some k → r[i]? = some x → Shape h k x) : Shape h (.sl e) v
theorem Shape.up {h h' : Heap} (hp : h <+: h') {k : CK} {v : Value} (s : Shape h k v) : Shape h' k v := by
  induction s with
  | int k n hw => exact .int k n hw
  | bool b => exact .bool b
  | str s hs => exact .str s hs
  | sl e v rows hr hm hk ih => exact .sl e v rows (hr.up hp) hm ih
def fieldsK (P : Program) (g : TypeId → Option (List CK)) : Nat → List Field → Option (List CK)
  | _, [] => some []
  | off, f :: fs => match g f.type with
    | some ks => if f.offset = off ∧ ks.length = P.cellsOf f.type then (fieldsK P g (off + ks.length) fs).map (ks ++ ·) else none
    | none => none
def kindsOf (P : Program) : Nat → TypeId → Option (List CK)
  | 0, _ => none
  | n + 1, t => match P.underlying t with
    | some (.int k) => some [.int k]
    | some .bool => some [.bool]
    | some .string => some [.str]
    | some (.slice e) => match kindsOf P n e with
      | some ks => if ks.length = P.cellsOf e ∧ 0 < ks.length then some [.sl ks] else none
      | none => none
    | some (.struct fs) => match fieldsK P (kindsOf P n) 0 fs.toList with
      | some ks => if ks.length = P.cellsOf t then some ks else none
      | none => none
    | _ => none
def NoOwn (h : Heap) : Prop := ∀ (b : Nat) (blk : Blk), h[b]? = some blk → blk.own = false
theorem HRel.show {μ : Map} {h : Heap} {w : World} (k : HRel μ h w) (hn : NoOwn h) {blk : Blk} (ho : blk.own = false) (hp : 0 < blk.sz) {l : Loc} (hl : l.g < w.heap.size)
    (hc : ∀ (i : Nat) (v : Value), blk.cells[i]? = some v → ∃ v', w.cell? ⟨l.g, l.o + i, none⟩ = some v' ∧ VR1 μ h v v') :
    HRel (μ.to h.length l) (h ++ [blk]) w ∧ Up μ h (μ.to h.length l) (h ++ [blk]) ∧ NoOwn (h ++ [blk]) := by
  have up := Up.push μ h l blk
  have no : NoOwn (h ++ [blk]) := fun b b' hb => by
    rcases push_get hb with ⟨_, rfl⟩ | ⟨_, hb⟩
    · exact ho
    · exact hn _ _ hb
  refine ⟨⟨fun b' blk' hb' i v hv => ?_, fun b' blk' hb' => ?_, fun b' blk' hb' => ?_, fun b' blk' hb' ho' => ?_, fun b1 b2 blk1 blk2 h1 h2 h3 h4 => ?_⟩, up, no⟩
  · rcases push_get hb' with ⟨rfl, rfl⟩ | ⟨hlt, hb'⟩
    · obtain ⟨v', h1, h2⟩ := hc i v hv
      exact ⟨v', by rw [Map.to_same]; exact h1, h2.up up⟩
    · obtain ⟨v', h1, h2⟩ := k.cell b' blk' hb' i v hv
      exact ⟨v', by rw [Map.to_ne _ _ (by omega)]; exact h1, h2.up up⟩
  · rcases push_get hb' with ⟨rfl, rfl⟩ | ⟨hlt, hb'⟩
    · exact hp
    · exact k.pos _ _ hb'
  · rcases push_get hb' with ⟨rfl, rfl⟩ | ⟨hlt, hb'⟩
    · rw [Map.to_same]; exact hl
    · rw [Map.to_ne _ _ (by omega)]; exact k.lt _ _ hb'
  · rw [no _ _ hb'] at ho'; cases ho'
  · rw [no _ _ h1] at h3; cases h3
def Opens (w : World) (ks : List CK) (cs : List Value) : Prop := ∀ (h : Heap) (μ : Map), HRel μ h w → NoOwn h → ∃ h' μ' acs, h <+: h' ∧ Up μ h μ' h' ∧ HRel μ' h' w ∧ NoOwn h' ∧ All2 (VR0 μ' h') acs cs ∧ All2 (Shape h') ks acs
theorem Opens.nil {w : World} : Opens w [] [] := fun h μ H N => ⟨h, μ, [], List.prefix_refl _, Up.refl _ _, H, N, All2.nil, All2.nil⟩
theorem Opens.append {w : World} {ks1 ks2 : List CK} {cs1 cs2 : List Value} (o1 : Opens w ks1 cs1) (o2 : Opens w ks2 cs2) : Opens w (ks1 ++ ks2) (cs1 ++ cs2) := by
  intro h μ H N; obtain ⟨h1, μ1, a1, p1, u1, H1, N1, v1, s1⟩ := o1 h μ H N; obtain ⟨h2, μ2, a2, p2, u2, H2, N2, v2, s2⟩ := o2 h1 μ1 H1 N1
  exact ⟨h2, μ2, a1 ++ a2, p1.trans p2, u1.trans u2, H2, N2, (v1.imp fun _ _ k => k.up u2).append v2, (s1.imp fun _ _ k => k.up p2).append s2⟩
theorem Opens.one {w : World} {k : CK} {v : Value} (hp : prim v = true) (hs : ∀ h, Shape h k v) : Opens w [k] [v] := fun h μ H N =>
  ⟨h, μ, [v], List.prefix_refl _, Up.refl _ _, H, N, All2.cons (.prim _ hp) All2.nil, All2.cons (hs h) All2.nil⟩
theorem opens_fields {P : Program} {w : World} {g : TypeId → Option (List CK)} {cs : List Value} : ∀ (fs : List Field) (off : Nat) (ks : List CK), fieldsK P g off fs = some ks → off + ks.length ≤ cs.length →
    (∀ f ∈ fs, ∀ k, g f.type = some k → Opens w k ((cs.drop f.offset).take (P.cellsOf f.type))) → Opens w ks ((cs.drop off).take ks.length)
  | [], off, ks, h, _, _ => by simp [fieldsK] at h; subst h; simpa using Opens.nil
  | f :: fs, off, ks, h, hl, ho => by
    simp only [fieldsK] at h; split at h
    · rename_i k hk
      split at h
      · rename_i hc
        obtain ⟨h1, h2⟩ := hc; simp only [Option.map_eq_some_iff] at h; obtain ⟨ks', h3, rfl⟩ := h; simp only [List.length_append] at hl; have o1 := ho f List.mem_cons_self k hk; rw [h1, ← h2] at o1
        have o2 := opens_fields fs (off + k.length) ks' h3 (by omega) fun f hf => ho f (List.mem_cons_of_mem _ hf)
        have e : (cs.drop off).take (k ++ ks').length = (cs.drop off).take k.length ++ (cs.drop (off + k.length)).take ks'.length := by
          rw [List.length_append, List.take_add, List.drop_drop]
        rw [e]; exact o1.append o2
      · cases h
    · cases h
theorem add_block (a : Addr) (n : Nat) : (a.add n).block = a.block := by unfold Addr.add; split <;> rfl
theorem opens_rows {w : World} {a : Addr} {e : List CK} {n : Nat} (hr : ∀ i, i < n → ∃ cs, cs.length = e.length ∧ (∀ j, j < e.length → w.cell? (a.add (i * e.length + j)) = cs[j]?) ∧ Opens w e cs) :
    ∀ (h : Heap) (μ : Map), HRel μ h w → NoOwn h → ∃ (h' : Heap) (μ' : Map) (rows : List (List Value)) (flat : List Value), h <+: h' ∧ Up μ h μ' h' ∧ HRel μ' h' w ∧ NoOwn h' ∧ rows.length = n ∧ (∀ r ∈ rows, All2 (Shape h') e r) ∧ All2 (VR0 μ' h') rows.flatten flat ∧ flat.length = n * e.length ∧ ∀ q, q < n * e.length → w.cell? (a.add q) = flat[q]? := by
  induction n with
  | zero => exact fun h μ H N => ⟨h, μ, [], [], List.prefix_refl _, Up.refl _ _, H, N, rfl, fun _ h => (by cases h), All2.nil, by simp, fun q hq => by omega⟩
  | succ n ih =>
    intro h μ H N
    obtain ⟨h1, μ1, rows, flat, p1, u1, H1, N1, l1, s1, v1, f1, g1⟩ := ih (fun i hi => hr i (by omega)) h μ H N
    obtain ⟨cs, c1, c2, c3⟩ := hr n (by omega)
    obtain ⟨h2, μ2, acs, p2, u2, H2, N2, v2, s2⟩ := c3 h1 μ1 H1 N1
    refine ⟨h2, μ2, rows ++ [acs], flat ++ cs, p1.trans p2, u1.trans u2, H2, N2, by simp [l1], fun r hr => ?_, ?_, ?_, fun q hq => ?_⟩
    · rcases List.mem_append.1 hr with hr | hr
      · exact (s1 r hr).imp fun _ _ k => k.up p2
      · rw [List.mem_singleton.1 hr]; exact s2
    · rw [List.flatten_append]
      simpa using (v1.imp fun _ _ k => k.up u2).append v2
    · rw [List.length_append, f1, c1, Nat.add_mul, Nat.one_mul]
    · rw [Nat.add_mul, Nat.one_mul] at hq
      by_cases hlt : q < n * e.length
      · rw [g1 q hlt, List.getElem?_append_left (by omega)]
      · have := c2 (q - n * e.length) (by omega)
        rw [show n * e.length + (q - n * e.length) = q by omega] at this
        rw [this, List.getElem?_append_right (by omega), f1]
theorem mem_index {fs : List Field} {f : Field} (h : f ∈ fs) : ∃ i : Nat, fs[i]? = some f := by
  obtain ⟨i, hi, e⟩ := List.mem_iff_getElem.1 h
  exact ⟨i, by rw [List.getElem?_eq_getElem hi, e]⟩
theorem row_of_flat {rows : List (List Value)} {sz : Nat} (hl : ∀ r ∈ rows, r.length = sz) {flat : List Value} {μ : Map} {h : Heap} (v : All2 (VR0 μ h) rows.flatten flat) {q : Nat} {x : Value} (hx : rows.flatten[q]? = some x) : ∃ y, flat[q]? = some y ∧ VR1 μ h x y := by
  obtain ⟨y, hy, k⟩ := v.get hx; exact ⟨y, hy, .base _ _ k⟩
theorem opens_kinds {H : Type} {enc : TypeId × Value → H} {P : Program} {w : World} {spare : Nat → Bool} {held : Bool} (hsp : ∀ b, spare b = true) : ∀ (n : Nat) (t : TypeId) (ks : List CK), kindsOf P n t = some ks →
    ∀ (fuel : Nat) (cs : List Value) (x : DataW H × List MemPlace), DataW.trod enc P w 0 spare held fuel t cs = some x → Opens w ks cs
  | 0, t, ks, h => by cases h
  | n + 1, t, ks, h => by
    intro fuel cs x hx; simp only [kindsOf] at h; split at h
    · rename_i k ht
      cases h; obtain ⟨m, rfl, _, hw⟩ := DataW.trod_int ht hx
      exact Opens.one rfl fun _ => .int k m hw
    · rename_i ht
      cases h; obtain ⟨b, rfl, _⟩ := DataW.trod_bool ht hx
      exact Opens.one rfl fun _ => .bool b
    · rename_i ht
      cases h; obtain ⟨b, rfl, _, hw⟩ := DataW.trod_string ht hx
      exact Opens.one rfl fun _ => .str b hw
    · rename_i e ht
      split at h
      · rename_i ke hke
        split at h
        · rename_i hc
          obtain ⟨hc1, hc2⟩ := hc; cases h; rcases Go.Deep.open_slice ht hx with ⟨rfl, _⟩ | ⟨a, len, cap, m, k, D, Pl, rfl, _, hlc, hcm, hm, _, hi⟩
          · exact Opens.one rfl fun _ => .sl ke _ [] Rows.nil (Nat.zero_le _) (fun _ h => by cases h)
          · rw [hsp, if_pos rfl] at hm
            subst hm
            have hrow : ∀ i, i < m → ∃ cs, cs.length = ke.length ∧ (∀ j, j < ke.length → w.cell? (a.add (i * ke.length + j)) = cs[j]?) ∧ Opens w ke cs := fun i him => by
              obtain ⟨cs', hc', ht'⟩ := hi i him; obtain ⟨_, hcl, hat⟩ := World.cells?_some hc'; rw [← hc1] at hcl hat
              refine ⟨cs', hcl, fun j hj => ?_, opens_kinds hsp n e ke hke k cs' _ ht'⟩
              rw [← Go.Deep.add_add]; exact hat j hj
            by_cases hz : m = 0
            · subst hz
              obtain rfl : len = 0 := by omega
              exact fun h μ H N => ⟨h, μ, [.slice none 0 0], List.prefix_refl _, Up.refl _ _, H, N, All2.cons (.hollow a) All2.nil, All2.cons (.sl ke _ [] Rows.nil (Nat.zero_le _) (fun _ h => by cases h)) All2.nil⟩
            · intro h μ H N
              obtain ⟨h1, μ1, rows, flat, p1, u1, H1, N1, l1, s1, v1, f1, g1⟩ := opens_rows (n := len) (fun i hi => hrow i (by omega)) h μ H N
              have hsz : ∀ r ∈ rows, r.length = ke.length := fun r hr => (s1 r hr).1.symm
              obtain ⟨c0, q1, q2, _⟩ := hrow 0 (by omega)
              have hcell : w.cell? a = c0[0]? := by
                have := q2 0 hc2; simpa [Addr.add] using this
              rw [List.getElem?_eq_getElem (by omega)] at hcell
              have hblk : ∃ cur et fr, w.heap[a.block]? = some (.cells cur et fr) ∧ a.spot = none := by
                unfold World.cell? at hcell; split at hcell
                · rename_i cur et fr hb
                  split at hcell
                  · cases hcell
                  · rename_i hs
                    exact ⟨cur, et, fr, hb, by simpa using hs⟩
                · cases hcell
              obtain ⟨cur, et, fr, hb, hs⟩ := hblk; have hlt : a.block < w.heap.size := (Array.getElem?_eq_some_iff.1 hb).1
              have ha : a = ⟨a.block, a.off, none⟩ := by cases a; simp_all
              have hadd : ∀ q, a.add q = ⟨a.block, a.off + q, none⟩ := fun q => by
                unfold Addr.add; split
                · rename_i h0; subst h0; rw [Nat.add_zero]; exact ha
                · rfl
              obtain ⟨H2, u2, N2⟩ := H1.show N1 (blk := ⟨rows.flatten, ke.length, 0, false⟩) rfl hc2 (l := ⟨a.block, a.off, 0⟩) hlt (fun i v hv => by
                obtain ⟨y, hy, k⟩ := row_of_flat hsz v1 hv; refine ⟨y, ?_, k⟩
                have hq : i < len * ke.length := by
                  have := (List.getElem?_eq_some_iff.1 hy).1; omega
                have := g1 i hq; rw [hadd] at this; rw [this]
                exact hy)
              have hfl : rows.flatten.length = len * ke.length := by rw [flatten_len hsz, l1]
              refine ⟨_, _, [.slice (some ⟨h1.length, 0, none⟩) len len], p1.trans (List.prefix_append _ _), u1.trans u2, H2, N2, All2.cons (.sl h1.length 0 len len _ ⟨rows.flatten, ke.length, 0, false⟩ (by simp) (Nat.le_refl _) (by simp only [Nat.zero_add, hfl]; exact Nat.le_refl _) (fun _ => ?_) rfl) All2.nil, All2.cons (.sl ke _ rows ?_ (by omega) (fun r hr i k x hk hx => ?_)) All2.nil⟩
              · refine ⟨a, m, rfl, hlc, hcm, .inr ?_, fun h => by cases h⟩
                rw [Map.to_same]; exact ha
              · refine ⟨hsz, .inr ⟨h1.length, 0, len, ⟨rows.flatten, ke.length, 0, false⟩, by rw [l1], by simp, rfl, by simp [hfl], by omega, ?_⟩⟩
                rw [l1, ← hfl, List.drop_zero]; exact List.take_length
              · exact ((s1 r hr).2 i k x hk hx).up (List.prefix_append _ _)
        · cases h
      · cases h
    · rename_i fs ht
      split at h
      · rename_i ks' hf
        split at h
        · rename_i hl
          cases h; obtain ⟨xs, k, _, _, hlen, hxl, hfs⟩ := DataW.trod_struct ht hx
          have := opens_fields (w := w) (cs := cs) fs.toList 0 ks hf (by omega) (fun f hmem kf hkf => by
            obtain ⟨i, hi⟩ := mem_index hmem
            have hi' : fs[i]? = some f := by simpa using hi
            have h1 := hfs i f hi'
            have hil : i < xs.length := by rw [hxl]; exact (Array.getElem?_eq_some_iff.1 hi').1
            rw [List.getElem?_eq_getElem hil] at h1
            exact opens_kinds hsp n f.type kf hkf k _ _ h1)
          rw [List.drop_zero, List.take_of_length_le (by omega)] at this
          exact this
        · cases h
      · cases h
    · cases h
end Go.Proofs.Ytafhipglhnfgnaa.Ab
/- A law's call, from the arguments as they are read to the answer. No conditions. -/
namespace Go.Proofs.Ytafhipglhnfgnaa.Ab
open Go.RowKit
def isRow (P : Program) (t : TypeId) : Bool := match P.underlying t with
  | some (.struct _) => true
  | _ => false
def paramsK (P : Program) : List TypeId → Option (List (Bool × List CK))
  | [] => some []
  | t :: ts => match kindsOf P 12 t, paramsK P ts with
    | some ks, some ps => some ((isRow P t, ks) :: ps)
    | _, _ => none
def ArgOk (h : Heap) (p : Bool × List CK) (v : Value) : Prop := ∃ acs, All2 (Shape h) p.2 acs ∧ if p.1 = true then v = .agg ⟨acs⟩ else acs = [v]
theorem ArgOk.up {h h' : Heap} (hp : h <+: h') {p : Bool × List CK} {v : Value} (a : ArgOk h p v) : ArgOk h' p v := by
  obtain ⟨acs, h1, h2⟩ := a
  exact ⟨acs, h1.imp fun _ _ k => k.up hp, h2⟩
theorem HRel.empty {μ : Map} {w : World} : HRel μ [] w := ⟨fun b _ h => by simp at h, fun b _ h => by simp at h, fun b _ h => by simp at h, fun b _ h => by simp at h, fun b _ _ _ h => by simp at h⟩
theorem NoOwn.empty : NoOwn [] := fun b _ h => by simp at h
section
variable {H : Type} {enc : TypeId × Value → H} {P : Program} {W : World} {base : Nat}
theorem okWide_one {t : TypeId} {v : Value} {ks : List CK} {n : Nat} (hk : kindsOf P (n + 1) t = some ks) (hs : isRow P t = false) (h : Value.okWide P W .any base t v) : v.cells.toList = [v] := by
  unfold isRow at hs; simp only [kindsOf] at hk; unfold Value.okWide Cell.okWide Cell.ok at h
  cases hu : P.underlying t with
  | none => rw [hu] at hk; cases hk
  | some d =>
    rw [hu] at hk h hs
    cases d <;> simp only [Bool.true_eq_false] at hs <;> (try (cases hk; done)) <;> cases v <;> first | rfl | exact h.elim
theorem opens_args : ∀ (ts : List TypeId) (ps : List (Bool × List CK)) (vs : List Value) (ds : List (DataW H)) (pl : List MemPlace), paramsK P ts = some ps → DataW.TrodAll enc P W 0 (fun _ => true) true ts vs ds pl →
    (∀ (j : Nat) (t : TypeId) (v : Value), ts[j]? = some t → vs[j]? = some v → Value.okWide P W .any base t v) →
    ∀ (h : Heap) (μ : Map), HRel μ h W → NoOwn h → ∃ (h' : Heap) (μ' : Map) (avs : List Value), h <+: h' ∧ Up μ h μ' h' ∧ HRel μ' h' W ∧ NoOwn h' ∧ All2 (VR μ' h') avs vs ∧ All2 (ArgOk h') ps avs
  | [], ps, vs, ds, pl, hp, ht, _, h, μ, R, N => by
    simp [paramsK] at hp; subst hp; obtain ⟨rfl, _, _⟩ := Go.ChangeShapes.trodAll_nil ht; exact ⟨h, μ, [], List.prefix_refl _, Up.refl _ _, R, N, All2.nil, All2.nil⟩
  | t :: ts, ps, vs, ds, pl, hp, ht, hw, h, μ, R, N => by
    simp only [paramsK] at hp; split at hp
    · rename_i ks ps' hk hps
      cases hp; obtain ⟨v, vs', d, ds', p, q, rfl, rfl, rfl, ⟨fuel, hf⟩, htr⟩ := Go.ChangeShapes.trodAll_cons ht
      obtain ⟨h1, μ1, acs, p1, u1, R1, N1, v1, s1⟩ := opens_kinds (fun _ => rfl) 12 t ks hk fuel _ _ hf h μ R N
      obtain ⟨h2, μ2, avs, p2, u2, R2, N2, v2, s2⟩ := opens_args ts ps' vs' ds' q hps htr (fun j t v h1 h2 => hw (j + 1) t v (by simpa using h1) (by simpa using h2)) h1 μ1 R1 N1
      have hv := hw 0 t v rfl rfl
      have vv : All2 (VR1 μ2 h2) acs v.cells.toList := v1.imp fun _ _ k => .base _ _ (k.up u2)
      cases hr : isRow P t with
      | true =>
        have hst : ∃ cs : Array Value, v = .agg cs := by
          unfold isRow at hr; split at hr
          · rename_i fs hu
            obtain ⟨cs, hcs, _⟩ := Go.WideShapes.okWide_struct hu hv; exact ⟨cs, hcs⟩
          · cases hr
        obtain ⟨⟨cs⟩, rfl⟩ := hst
        exact ⟨h2, μ2, .agg ⟨acs⟩ :: avs, p1.trans p2, u1.trans u2, R2, N2, All2.cons (.val _ _ (.agg _ _ vv)) v2, All2.cons ⟨acs, s1.imp fun _ _ k => k.up p2, by simp⟩ s2⟩
      | false =>
        have h1c := okWide_one hk hr hv; rw [h1c] at vv; have hal : acs.length = 1 := vv.1
        match acs, hal with
        | [av], _ =>
          exact ⟨h2, μ2, av :: avs, p1.trans p2, u1.trans u2, R2, N2, All2.cons (.val _ _ (.one _ _ (vv.2 0 av v rfl rfl))) v2, All2.cons ⟨[av], s1.imp fun _ _ k => k.up p2, by simp⟩ s2⟩
    · cases hp
theorem trodAll_below {W' : World} (hl : laidOutB P = true) : ∀ {ts : List TypeId} {vs : List Value} {ds : List (DataW H)} {pl : List MemPlace}, (ts.all fun t => P.readableRec t && decide (t < P.types.size)) = true → DataW.TrodAll enc P W 0 (fun _ => true) true ts vs ds pl →
    Below W.heap.size W W' → (∀ x ∈ pl, x.block < W.heap.size) → DataW.TrodAll enc P W' 0 (fun b => decide (b < W.heap.size)) true ts vs ds pl
  | [], vs, ds, pl, _, h, _, _ => by
    obtain ⟨rfl, rfl, rfl⟩ := Go.ChangeShapes.trodAll_nil h; rfl
  | t :: ts, vs, ds, pl, hr, h, hb, hlt => by
    obtain ⟨v, vs', d, ds', p, q, rfl, rfl, rfl, h1, h2⟩ := Go.ChangeShapes.trodAll_cons h; simp only [List.all_cons, Bool.and_eq_true, decide_eq_true_eq] at hr
    exact ⟨p, q, Below.trod hl hr.1.1 hr.1.2 h1 hb (fun x hx => hlt x (List.mem_append_left _ hx)), trodAll_below hl (by simpa using hr.2) h2 hb (fun x hx => hlt x (List.mem_append_right _ hx)), rfl⟩
end
def noX : CallF := fun _ _ _ => none
theorem law_calls {H : Type} {enc : TypeId × Value → H} {P : Program} {W : World} {f : FuncId} {ts : List TypeId} {ps : List (Bool × List CK)} {X : CallF} (sound : ∀ n, SoundC P W (call T X n)) (hp : paramsK P ts = some ps)
    (law : ∀ (h : Heap) (avs : List Value), All2 (ArgOk h) ps avs → C T X f avs h = some (.bool true, h))
    {base : Nat} {args : Array Value} {ds : List (DataW H)} {pl : List MemPlace} (ht : DataW.TrodAll enc P W 0 (fun _ => true) true ts args.toList ds pl)
    (hw : ∀ (j : Nat) (t : TypeId) (v : Value), ts[j]? = some t → args.toList[j]? = some v → Value.okWide P W .any base t v) :
    Calls P f args W fun e W' => e = .returned (.bool true) ∧ Below W.heap.size W W' := by
  obtain ⟨h, μ, avs, _, _, R, N, va, sa⟩ := opens_args ts ps args.toList ds pl hp ht hw [] (fun _ => ⟨0, 0, 0⟩) HRel.empty NoOwn.empty
  obtain ⟨n, hn⟩ := C_to T X (law h avs sa); obtain ⟨_, hc⟩ := sound n f avs h _ _ hn
  have hG : Gd W μ h W := ⟨Nat.le_refl _, fun g _ => ⟨rfl, fun ⟨b, blk, hb, ho, _⟩ => by rw [N b blk hb] at ho; cases ho⟩⟩
  have := hc μ W args.toList R hG va
  refine this.mono fun e W' hq => ?_
  obtain ⟨v', μ', rfl, h1, h2, h3⟩ := hq
  refine ⟨by rw [h1.bool], h3.frame.os, h3.frame.tape, h3.frame.output, h3.frame.size, fun k hk => h3.frame.block k hk ?_⟩
  rintro ⟨b, blk, hb, ho, _⟩; rw [N b blk hb] at ho; cases ho
end Go.Proofs.Ytafhipglhnfgnaa.Ab
/- Arguments taken apart: what a shown argument is, kind by kind. No conditions. -/
namespace Go.Proofs.Ytafhipglhnfgnaa.Ab
open Go.RowKit
theorem All2.nil_inv {α β : Type} {R : α → β → Prop} {ys : List β} (h : All2 R [] ys) : ys = [] := by
  have := h.1
  cases ys with
  | nil => rfl
  | cons y ys => simp at this
theorem All2.cons_inv {α β : Type} {R : α → β → Prop} {x : α} {xs : List α} {ys : List β} (h : All2 R (x :: xs) ys) : ∃ y ys', ys = y :: ys' ∧ R x y ∧ All2 R xs ys' := by
  have := h.1
  cases ys with
  | nil => simp at this
  | cons y ys =>
    refine ⟨y, ys, rfl, h.2 0 x y rfl rfl, by simpa using this, fun i a b ha hb => h.2 (i + 1) a b (by simpa using ha) (by simpa using hb)⟩
section
variable {h : Heap} {v : Value}
theorem wf64 {n : Int} (hw : (Lit.int .i64 n).wf = true) : I64 n := by
  have h : IntKind.i64.min ≤ n ∧ n ≤ IntKind.i64.max := by simpa [Lit.wf] using hw
  exact ⟨h.1, h.2⟩
theorem Shape.int_inv (s : Shape h (.int .i64) v) : ∃ n, v = .int .i64 n ∧ I64 n := by
  cases s with
  | int k n hw => exact ⟨n, rfl, wf64 hw⟩
theorem Shape.bool_inv (s : Shape h .bool v) : ∃ b, v = .bool b := by
  cases s with
  | bool b => exact ⟨b, rfl⟩
theorem Shape.str_inv (s : Shape h .str v) : ∃ b, v = .string b ∧ b.size ≤ maxLen := by
  cases s with
  | str b hs => exact ⟨b, rfl, hs⟩
theorem Shape.sl_inv {e : List CK} (s : Shape h (.sl e) v) : ∃ rows, Rows h e.length v rows ∧ rows.length ≤ maxLen ∧ ∀ r ∈ rows, All2 (Shape h) e r := by
  cases s with
  | sl e v rows hr hm hk => exact ⟨rows, hr, hm, fun r hrm => ⟨(hr.len r hrm).symm, fun i k x h1 h2 => hk r hrm i k x h1 h2⟩⟩
theorem rows_map {α : Type} {f : α → List Value} {Q : α → Prop} : ∀ {rows : List (List Value)}, (∀ r ∈ rows, ∃ a, r = f a ∧ Q a) → ∃ l : List α, rows = l.map f ∧ ∀ a ∈ l, Q a
  | [], _ => ⟨[], rfl, fun _ h => by cases h⟩
  | r :: rows, hr => by
    obtain ⟨a, ha, qa⟩ := hr r List.mem_cons_self
    obtain ⟨l, hl, ql⟩ := rows_map (fun r h => hr r (List.mem_cons_of_mem _ h))
    exact ⟨a :: l, by simp [ha, hl], fun b hb => by
      rcases List.mem_cons.1 hb with rfl | hb
      · exact qa
      · exact ql b hb⟩
theorem Shape.ints_inv (s : Shape h (.sl [.int .i64]) v) : ∃ l : List Int, Rows h 1 v (ints l) ∧ l.length ≤ maxLen ∧ ∀ n ∈ l, I64 n := by
  obtain ⟨rows, hr, hm, hk⟩ := s.sl_inv
  obtain ⟨l, rfl, hl⟩ := rows_map (f := fun n : Int => [Value.int .i64 n]) (Q := I64) (rows := rows) (fun r hrm => by
    obtain ⟨x, r', rfl, hx, h2⟩ := (hk r hrm).cons_inv; obtain rfl := h2.nil_inv; obtain ⟨n, rfl, hn⟩ := hx.int_inv
    exact ⟨n, rfl, hn⟩)
  exact ⟨l, hr, by simpa using hm, hl⟩
end
theorem ArgOk.row {h : Heap} {ks : List CK} {v : Value} (a : ArgOk h (true, ks) v) : ∃ acs, All2 (Shape h) ks acs ∧ v = .agg ⟨acs⟩ := by
  obtain ⟨acs, h1, h2⟩ := a
  exact ⟨acs, h1, by simpa using h2⟩
theorem ArgOk.cell {h : Heap} {k : CK} {v : Value} (a : ArgOk h (false, [k]) v) : Shape h k v := by
  obtain ⟨acs, h1, h2⟩ := a; obtain ⟨x, r, rfl, hx, h3⟩ := h1.cons_inv; obtain rfl := h3.nil_inv
  obtain rfl : x = v := by simpa using h2
  exact hx
theorem trodAll_len {H : Type} {enc : TypeId × Value → H} {P : Program} {W : World} {spare : Nat → Bool} {held : Bool} : ∀ {ts : List TypeId} {vs : List Value} {ds : List (DataW H)} {pl : List MemPlace}, DataW.TrodAll enc P W 0 spare held ts vs ds pl → ds.length = ts.length
  | [], vs, ds, pl, h => by
    obtain ⟨_, rfl, _⟩ := Go.ChangeShapes.trodAll_nil h; rfl
  | t :: ts, vs, ds, pl, h => by
    obtain ⟨v, vs', d, ds', p, q, rfl, rfl, rfl, _, h2⟩ := Go.ChangeShapes.trodAll_cons h; simp [trodAll_len h2]
theorem len1 {α : Type} {l : List α} (h : l.length = 1) : ∃ a, l = [a] := List.length_eq_one_iff.1 h
theorem len2 {α : Type} {l : List α} (h : l.length = 2) : ∃ a b, l = [a, b] := by
  match l, h with
  | [a, b], _ => exact ⟨a, b, rfl⟩
theorem len3 {α : Type} {l : List α} (h : l.length = 3) : ∃ a b c, l = [a, b, c] := by
  match l, h with
  | [a, b, c], _ => exact ⟨a, b, c, rfl⟩
theorem len4 {α : Type} {l : List α} (h : l.length = 4) : ∃ a b c d, l = [a, b, c, d] := by
  match l, h with
  | [a, b, c, d], _ => exact ⟨a, b, c, d, rfl⟩
end Go.Proofs.Ytafhipglhnfgnaa.Ab
set_option linter.unusedSimpArgs false
set_option linter.unusedVariables false
set_option linter.unnecessarySimpa false
set_option maxHeartbeats 4000000
namespace Go.Proofs.Ytafhipglhnfgnaa.Ab
open Go.RowKit
section
variable {h : Heap} {v : Value}
theorem Shape.edges_inv (s : Shape h (.sl [.int .i64, .int .i64, .int .i64, .int .i64, .int .i64]) v) : ∃ l : List E, Rows h 5 v (edges l) ∧ l.length ≤ maxLen ∧ ∀ e ∈ l, I64 e.a ∧ I64 e.b ∧ I64 e.w1 ∧ I64 e.w2 ∧ I64 e.w3 := by
  obtain ⟨rows, hr, hm, hk⟩ := s.sl_inv
  obtain ⟨l, rfl, hl⟩ := rows_map (f := edgeR) (Q := fun e => I64 e.a ∧ I64 e.b ∧ I64 e.w1 ∧ I64 e.w2 ∧ I64 e.w3) (rows := rows) (fun r hrm => by
    obtain ⟨x, r', rfl, hx, h2⟩ := (hk r hrm).cons_inv; obtain ⟨y, r', rfl, hy, h2⟩ := h2.cons_inv; obtain ⟨z, r', rfl, hz, h2⟩ := h2.cons_inv; obtain ⟨u, r', rfl, hu, h2⟩ := h2.cons_inv; obtain ⟨w, r', rfl, hw, h2⟩ := h2.cons_inv; obtain rfl := h2.nil_inv; obtain ⟨a, rfl, ha⟩ := hx.int_inv; obtain ⟨b, rfl, hb⟩ := hy.int_inv; obtain ⟨c, rfl, hc⟩ := hz.int_inv; obtain ⟨d, rfl, hd⟩ := hu.int_inv; obtain ⟨e, rfl, he⟩ := hw.int_inv
    exact ⟨⟨a, b, c, d, e⟩, rfl, ha, hb, hc, hd, he⟩)
  exact ⟨l, hr, by simpa using hm, hl⟩
theorem ArgOk.graph (a : ArgOk h (true, [.int .i64, .sl [.int .i64, .int .i64, .int .i64, .int .i64, .int .i64]]) v) : ∃ size ev es, v = graphV size ev ∧ I64 size ∧ Rows h 5 ev (edges es) ∧ es.length ≤ maxLen := by
  obtain ⟨acs, k, rfl⟩ := a.row; obtain ⟨v0, r, rfl, k0, k⟩ := k.cons_inv; obtain ⟨v1, r, rfl, k1, k⟩ := k.cons_inv; obtain rfl := k.nil_inv; obtain ⟨n, rfl, hn⟩ := k0.int_inv; obtain ⟨es, he, hm, _⟩ := k1.edges_inv; exact ⟨n, v1, es, rfl, hn, he, hm⟩
def AqOk (x : Aq) : Prop := I64 x.op ∧ I64 x.a ∧ I64 x.b ∧ I64 x.w1 ∧ I64 x.w2 ∧ I64 x.w3
theorem ArgOk.ask (a : ArgOk h (true, [.int .i64, .int .i64, .int .i64, .int .i64, .int .i64, .int .i64]) v) : ∃ x : Aq, v = .agg ⟨aqR x⟩ ∧ AqOk x := by
  obtain ⟨acs, k, rfl⟩ := a.row; obtain ⟨v0, r, rfl, k0, k⟩ := k.cons_inv; obtain ⟨v1, r, rfl, k1, k⟩ := k.cons_inv; obtain ⟨v2, r, rfl, k2, k⟩ := k.cons_inv; obtain ⟨v3, r, rfl, k3, k⟩ := k.cons_inv; obtain ⟨v4, r, rfl, k4, k⟩ := k.cons_inv; obtain ⟨v5, r, rfl, k5, k⟩ := k.cons_inv; obtain rfl := k.nil_inv; obtain ⟨n0, rfl, h0⟩ := k0.int_inv; obtain ⟨n1, rfl, h1⟩ := k1.int_inv; obtain ⟨n2, rfl, h2⟩ := k2.int_inv; obtain ⟨n3, rfl, h3⟩ := k3.int_inv; obtain ⟨n4, rfl, h4⟩ := k4.int_inv; obtain ⟨n5, rfl, h5⟩ := k5.int_inv; exact ⟨⟨n0, n1, n2, n3, n4, n5⟩, rfl, h0, h1, h2, h3, h4, h5⟩
end
end Go.Proofs.Ytafhipglhnfgnaa.Ab
set_option linter.unusedSimpArgs false
set_option linter.unusedVariables false
set_option linter.unnecessarySimpa false
set_option maxHeartbeats 4000000
namespace Go.Proofs.Ytafhipglhnfgnaa.Ab
open Go.RowKit
section
variable {X : CallF} {h : Heap} {cv : Value} {l : List Int}
theorem k_big (hc : Rows h 1 cv (bys l)) : C T X n_laws_big [cv] h = some (.bool (decide ((l.length : Int) > 1048576)), h) := by
  refine C_go t_laws_big rfl ?_; unfold F_laws_big
  have hln : lnV h cv = some (.int .i64 (l.length : Int)) := by rw [hc.ln, bys_len]
  simp only [hln, go_sem]
theorem Shape.bytes_inv {v : Value} (s : Shape h (.sl [.int .u8]) v) : ∃ l : List Int, Rows h 1 v (bys l) := by
  obtain ⟨rows, hr, hm, hk⟩ := s.sl_inv
  obtain ⟨l, rfl, hl⟩ := rows_map (f := fun n : Int => [Value.int .u8 n]) (Q := fun _ => True) (rows := rows) (fun r hrm => by
    obtain ⟨x, r', rfl, hx, h2⟩ := (hk r hrm).cons_inv; obtain rfl := h2.nil_inv
    cases hx with
    | int k n hw => exact ⟨n, rfl, trivial⟩)
  exact ⟨l, hr⟩
end
end Go.Proofs.Ytafhipglhnfgnaa.Ab
set_option linter.unusedSimpArgs false
set_option linter.unusedVariables false
set_option linter.unnecessarySimpa false
set_option maxHeartbeats 4000000
namespace Go.Proofs.Ytafhipglhnfgnaa.Ab
open Go.RowKit
section
variable {es l M N s t : List E} {out C : List Int} {n : Nat} {u v x y : Int} {e f g : E} {P : Int → Prop}
theorem flt_two {q : Int → Bool} : ∀ (l : List Int), (l.filter fun v => !q v).length + (l.filter q).length = l.length
  | [] => rfl
  | a :: l => by
    have ih := flt_two (q := q) l; rw [List.filter_cons, List.filter_cons]
    cases q a with
    | true => simp only [Bool.not_true, Bool.false_eq_true, if_false, if_true, List.length_cons]; omega
    | false => simp only [Bool.not_false, Bool.false_eq_true, if_false, if_true, List.length_cons]; omega
def metB (l : List E) (v : Int) : Bool := decide (v ∈ endsL l)
theorem metB_t : metB l v = true ↔ v ∈ endsL l := by unfold metB; rw [decide_eq_true_eq]
theorem metB_f : (!metB l v) = true ↔ ¬ v ∈ endsL l := by unfold metB; rw [Bool.not_eq_true', decide_eq_false_iff_not]
def missL (l : List E) (C : List Int) : List Int := C.filter fun v => !metB l v
theorem missL_mem : v ∈ missL l C ↔ v ∈ C ∧ ¬ v ∈ endsL l := by unfold missL; rw [List.mem_filter, metB_f]
theorem miss_len (hC : C.Nodup) (hE : ∀ e ∈ l, e.a ≠ e.b) (hp : l.Pairwise Apart) (hc : ∀ e ∈ l, e.a ∈ C ↔ e.b ∈ C) : C.length = 2 * (l.filter fun e => decide (e.a ∈ C)).length + (missL l C).length := by
  have h1 := flt_two (q := metB l) C
  have hm : ∀ e, e ∈ (l.filter fun e => decide (e.a ∈ C)) → e ∈ l ∧ e.a ∈ C := fun e he => ⟨(List.mem_filter.1 he).1, by have := (List.mem_filter.1 he).2; rwa [decide_eq_true_eq] at this⟩
  have h2 : (C.filter (metB l)).Perm (endsL (l.filter fun e => decide (e.a ∈ C))) := by
    refine (List.perm_ext_iff_of_nodup (List.Pairwise.filter _ hC) (endsL_nd (fun e he => hE e (hm e he).1) (List.Pairwise.filter _ hp))).2 fun x => ?_
    rw [List.mem_filter, metB_t, endsL_mem, endsL_mem]; constructor
    · rintro ⟨hx, e, he, q⟩
      refine ⟨e, List.mem_filter.2 ⟨he, decide_eq_true ?_⟩, q⟩; rcases q with q | q
      · exact q ▸ hx
      · exact (hc e he).2 (q ▸ hx)
    · rintro ⟨e, he, q⟩
      obtain ⟨i1, i2⟩ := hm e he; refine ⟨?_, e, i1, q⟩; rcases q with q | q
      · exact q ▸ i2
      · exact q ▸ (hc e i1).1 i2
  have h3 := h2.length_eq; rw [endsL_len] at h3; unfold missL; omega
theorem pw_apart : ∀ {l : List E}, l.Pairwise Apart → f ∈ l → g ∈ l → f = g ∨ Apart f g
  | [], _, h, _ => absurd h List.not_mem_nil
  | a :: l, hp, hf, hg => by
    obtain ⟨h1, h2⟩ := List.pairwise_cons.1 hp
    rcases List.mem_cons.1 hf with q | q <;> rcases List.mem_cons.1 hg with r | r
    · exact .inl (q.trans r.symm)
    · exact .inr (q ▸ h1 g r)
    · exact .inr (r ▸ (h1 f q).symm)
    · exact pw_apart h2 q r
theorem mt_out (h : Mt es P (s ++ e :: t)) : Mt es P (s ++ t) ∧ ∀ f ∈ s ++ t, Apart e f := by
  have hp := List.pairwise_append.1 h.2; have ht := List.pairwise_cons.1 hp.2.1
  refine ⟨⟨fun f hf => h.1 f ?_, List.pairwise_append.2 ⟨hp.1, ht.2, fun a ha b hb => hp.2.2 a ha b (List.mem_cons_of_mem _ hb)⟩⟩, fun f hf => ?_⟩
  · rcases List.mem_append.1 hf with q | q
    · exact List.mem_append_left _ q
    · exact List.mem_append_right _ (List.mem_cons_of_mem _ q)
  · rcases List.mem_append.1 hf with q | q
    · exact (hp.2.2 f q e List.mem_cons_self).symm
    · exact ht.1 f q
def Grt (es : List E) (out : List Int) (M : List E) : Prop := Mt es (fun v => ¬ v ∈ out) M ∧ ∀ l, Mt es (fun v => ¬ v ∈ out) l → l.length ≤ M.length
theorem mt_more (h : Mt es P l) (he : e ∈ es) (pa : P e.a) (pb : P e.b) (ha : ¬ e.a ∈ endsL l) (hb : ¬ e.b ∈ endsL l) : Mt es P (e :: l) :=
  mt_cons he pa pb ⟨fun f hf => ⟨(h.1 f hf).1, ⟨(h.1 f hf).2.1, fun q => ha (endsL_mem.2 ⟨f, hf, .inl q.symm⟩), fun q => hb (endsL_mem.2 ⟨f, hf, .inl q.symm⟩)⟩, (h.1 f hf).2.2, fun q => ha (endsL_mem.2 ⟨f, hf, .inr q.symm⟩), fun q => hb (endsL_mem.2 ⟨f, hf, .inr q.symm⟩)⟩, h.2⟩
theorem grt_adj (h : Grt es out M) (r : Adj es out u v) : ¬ (¬ u ∈ endsL M ∧ ¬ v ∈ endsL M) := by
  rintro ⟨h1, h2⟩; obtain ⟨⟨e, he, hj⟩, o1, o2⟩ := r
  have key : Mt es (fun v => ¬ v ∈ out) (e :: M) := by
    rcases hj with ⟨rfl, rfl⟩ | ⟨rfl, rfl⟩
    · exact mt_more h.1 he o1 o2 h1 h2
    · exact mt_more h.1 he o2 o1 h2 h1
  have := h.2 _ key; rw [List.length_cons] at this; omega
theorem miss_all (hE : ∀ e ∈ es, EOk n e) (h : Mt es P M) : n = 2 * M.length + (missL M (upTo n)).length := by
  have hr : ∀ e ∈ M, e.a ∈ upTo n ∧ e.b ∈ upTo n := fun e he => by
    have := hE e (h.1 e he).1; unfold EOk at this
    exact ⟨upTo_mem.2 (by omega), upTo_mem.2 (by omega)⟩
  have := miss_len (C := upTo n) (l := M) upTo_nodup (fun e he => by have := hE e (h.1 e he).1; unfold EOk at this; omega) h.2 fun e he => ⟨fun _ => (hr e he).2, fun _ => (hr e he).1⟩
  rw [List.filter_eq_self.2 (fun e he => decide_eq_true (hr e he).1), upTo_len] at this
  exact this
theorem grt_find (hE : ∀ e ∈ es, EOk n e) (hM : Grt es out M) (hN : Grt es out N) (hu : 0 ≤ u ∧ u < n) (hv : 0 ≤ v ∧ v < n) (huv : u ≠ v) (mu : ¬ u ∈ endsL M) (mv : ¬ v ∈ endsL M) (nu : u ∈ endsL N) (nv : v ∈ endsL N) (y : Int) (hy : 0 ≤ y ∧ y < n) (ny : ¬ y ∈ endsL N) : ∃ x, x ∈ endsL M ∧ ¬ x ∈ endsL N ∧ x ≠ y := by
  refine Classical.byContradiction fun h => ?_
  have h' : ∀ x, ¬ x ∈ endsL N → x ≠ y → ¬ x ∈ endsL M := fun x h1 h2 h3 => h ⟨x, h3, h1, h2⟩
  have a1 := miss_all hE hM.1; have a2 := miss_all hE hN.1; have l1 := hM.2 N hN.1; have l2 := hN.2 M hM.1; have hnd : (missL N (upTo n)).Nodup := List.Pairwise.filter _ upTo_nodup; have hym : y ∈ missL N (upTo n) := missL_mem.2 ⟨upTo_mem.2 hy, ny⟩; have hl := List.length_erase_of_mem hym; have hps := List.length_pos_of_mem hym
  have hx : ∀ x ∈ (missL N (upTo n)).erase y, (0 ≤ x ∧ x < n) ∧ ¬ x ∈ endsL N ∧ x ≠ y := fun x hx => by
    obtain ⟨q1, q2⟩ := (hnd.mem_erase_iff).1 hx; obtain ⟨q3, q4⟩ := missL_mem.1 q2; exact ⟨upTo_mem.1 q3, q4, q1⟩
  have := nsubI_len (a := u :: v :: (missL N (upTo n)).erase y) (b := missL M (upTo n)) (by
    refine List.nodup_cons.2 ⟨fun q => ?_, List.nodup_cons.2 ⟨fun q => (hx v q).2.1 nv, hnd.erase y⟩⟩
    rcases List.mem_cons.1 q with q | q
    · exact huv q
    · exact (hx u q).2.1 nu) fun x q => by
    rcases List.mem_cons.1 q with q | q
    · exact missL_mem.2 ⟨q ▸ upTo_mem.2 hu, q ▸ mu⟩
    rcases List.mem_cons.1 q with q | q
    · exact missL_mem.2 ⟨q ▸ upTo_mem.2 hv, q ▸ mv⟩
    · obtain ⟨q1, q2, q3⟩ := hx x q
      exact missL_mem.2 ⟨upTo_mem.2 q1, h' x q2 q3⟩
  simp only [List.length_cons] at this; omega
open Classical in
noncomputable def offN (M N : List E) : Nat := (N.filter fun e => decide (¬ e ∈ M)).length
theorem grt_near (hM : Grt es out M) (hN : Grt es out N) (hx : x ∈ endsL M) (nx : ¬ x ∈ endsL N) (hxy : x ≠ y) (ny : ¬ y ∈ endsL N) : ∃ N', Grt es out N' ∧ ¬ y ∈ endsL N' ∧ offN M N' + 1 = offN M N := by
  obtain ⟨f, hf, hfx⟩ := endsL_mem.1 hx
  obtain ⟨z, hz, hfz⟩ : ∃ z, ((x = f.a ∧ z = f.b) ∨ (x = f.b ∧ z = f.a)) ∧ True := by
    rcases hfx with q | q
    · exact ⟨f.b, .inl ⟨q, rfl⟩, trivial⟩
    · exact ⟨f.a, .inr ⟨q, rfl⟩, trivial⟩
  clear hfz
  obtain ⟨fe, fa, fb⟩ := hM.1.1 f hf
  have nz : z ∈ endsL N := by
    refine Classical.byContradiction fun nz => ?_
    have key : Mt es (fun v => ¬ v ∈ out) (f :: N) := by
      rcases hz with ⟨q1, q2⟩ | ⟨q1, q2⟩
      · exact mt_more hN.1 fe fa fb (q1 ▸ nx) (q2 ▸ nz)
      · exact mt_more hN.1 fe fa fb (q2 ▸ nz) (q1 ▸ nx)
    have := hN.2 _ key; rw [List.length_cons] at this; omega
  obtain ⟨g, hg, hgz⟩ := endsL_mem.1 nz
  have gM : ¬ g ∈ M := fun gM => by
    rcases pw_apart hM.1.2 hf gM with q | q
    · subst q
      exact nx (endsL_mem.2 ⟨f, hg, hfx⟩)
    · obtain ⟨q1, q2, q3, q4⟩ := q
      rcases hz with ⟨_, r⟩ | ⟨_, r⟩ <;> rcases hgz with r2 | r2
      · exact q3 (r.symm.trans r2)
      · exact q4 (r.symm.trans r2)
      · exact q1 (r.symm.trans r2)
      · exact q2 (r.symm.trans r2)
  obtain ⟨s, t, rfl⟩ := List.append_of_mem hg; obtain ⟨h1, h2⟩ := mt_out hN.1
  have sub : ∀ w, w ∈ endsL (s ++ t) → w ∈ endsL (s ++ g :: t) := fun w hw => by
    obtain ⟨e, he, q⟩ := endsL_mem.1 hw; refine endsL_mem.2 ⟨e, ?_, q⟩; rcases List.mem_append.1 he with r | r
    · exact List.mem_append_left _ r
    · exact List.mem_append_right _ (List.mem_cons_of_mem _ r)
  have zn : ¬ z ∈ endsL (s ++ t) := fun hw => by
    obtain ⟨e, he, q⟩ := endsL_mem.1 hw; obtain ⟨q1, q2, q3, q4⟩ := h2 e he
    rcases hgz with r | r <;> rcases q with q | q
    · exact q1 (r.symm.trans q)
    · exact q2 (r.symm.trans q)
    · exact q3 (r.symm.trans q)
    · exact q4 (r.symm.trans q)
  have xn : ¬ x ∈ endsL (s ++ t) := fun hw => nx (sub x hw)
  refine ⟨f :: (s ++ t), ⟨?_, fun l hl => ?_⟩, fun hw => ?_, ?_⟩
  · rcases hz with ⟨q1, q2⟩ | ⟨q1, q2⟩
    · exact mt_more h1 fe fa fb (q1 ▸ xn) (q2 ▸ zn)
    · exact mt_more h1 fe fa fb (q2 ▸ zn) (q1 ▸ xn)
  · have := hN.2 l hl
    simp only [List.length_append, List.length_cons] at this ⊢; omega
  · rw [endsL_cons] at hw
    have hzy : y ≠ z := fun q => ny (q ▸ nz)
    rcases List.mem_cons.1 hw with q | hw
    · rcases hz with ⟨r1, r2⟩ | ⟨r1, r2⟩
      · exact hxy (r1.trans q.symm)
      · exact hzy (q.trans r2.symm)
    rcases List.mem_cons.1 hw with q | hw
    · rcases hz with ⟨r1, r2⟩ | ⟨r1, r2⟩
      · exact hzy (q.trans r2.symm)
      · exact hxy (r1.trans q.symm)
    · exact ny (sub y hw)
  · unfold offN
    rw [List.filter_cons, if_neg (by simp [hf]), List.filter_append, List.filter_append, List.filter_cons, if_pos (by simp [gM]), List.length_append, List.length_append, List.length_cons]
    omega
theorem gallai (hE : ∀ e ∈ es, EOk n e) (all : ∀ v : Int, 0 ≤ v → v < n → ¬ v ∈ out → ∃ M, Grt es out M ∧ ¬ v ∈ endsL M) (hu : 0 ≤ u ∧ u < n) (h : Cn es out u v) : u = v ∨ ∀ M, Grt es out M → ¬ (¬ u ∈ endsL M ∧ ¬ v ∈ endsL M) := by
  induction h with
  | refl => exact .inl rfl
  | @step b c h r ih =>
    by_cases huc : u = c
    · exact .inl huc
    rcases ih with rfl | ih
    · exact .inr fun M hM => grt_adj hM r
    refine .inr fun M hM => ?_
    rintro ⟨mu, mc⟩
    have rng : (0 ≤ b ∧ b < n) ∧ (0 ≤ c ∧ c < n) := by
      obtain ⟨⟨e, he, hj⟩, _, _⟩ := r; have := hE e he; unfold EOk at this
      rcases hj with ⟨q1, q2⟩ | ⟨q1, q2⟩ <;> omega
    obtain ⟨N, hN, nb⟩ := all b rng.1.1 rng.1.2 r.2.1
    have main : ∀ (k : Nat) (N : List E), Grt es out N → ¬ b ∈ endsL N → offN M N < k → False := by
      intro k
      induction k with
      | zero => intro N _ _ h; omega
      | succ k ihk =>
        intro N hN nb hk
        have nu : u ∈ endsL N := Classical.byContradiction fun q => ih N hN ⟨q, nb⟩
        have nc : c ∈ endsL N := Classical.byContradiction fun q => grt_adj hN r ⟨nb, q⟩
        obtain ⟨x, x1, x2, x3⟩ := grt_find hE hM hN hu rng.2 huc mu mc nu nc b rng.1 nb; obtain ⟨N', n1, n2, n3⟩ := grt_near hM hN x1 x2 x3 nb
        exact ihk N' n1 n2 (by omega)
    exact main _ N hN nb (Nat.lt_succ_self _)
theorem comps_is (h : C ∈ comps es out n) : ∃ v : Int, (0 ≤ v ∧ v < n) ∧ ¬ v ∈ out ∧ C = compL es out n v := by
  unfold comps compsTo at h; obtain ⟨v, h1, h2⟩ := List.mem_filterMap.1 h; split at h2
  · rename_i hd
    cases h2; exact ⟨v, upTo_mem.1 h1, hd.1, rfl⟩
  · cases h2
theorem comp_ends (hE : ∀ e ∈ es, EOk n e) (h : Mt es (fun v => ¬ v ∈ out) M) (e : E) (he : e ∈ M) (v : Int) : e.a ∈ compL es out n v ↔ e.b ∈ compL es out n v := by
  obtain ⟨h1, h2, h3⟩ := h.1 e he; have := hE e h1; unfold EOk at this; have r : Cn es out e.a e.b := Conn.one ⟨⟨e, h1, .inl ⟨rfl, rfl⟩⟩, h2, h3⟩; rw [compL_mem, compL_mem]
  exact ⟨fun q => ⟨by omega, q.2.trans r⟩, fun q => ⟨by omega, q.2.trans r.symm⟩⟩
theorem comp_par (hE : ∀ e ∈ es, EOk n e) (h : Mt es (fun v => ¬ v ∈ out) M) (hC : C ∈ comps es out n) : (missL M C).length % 2 = C.length % 2 := by
  obtain ⟨v, _, _, rfl⟩ := comps_is hC
  have := miss_len (C := compL es out n v) (l := M) compL_nodup (fun e he => by have := hE e (h.1 e he).1; unfold EOk at this; omega) h.2 fun e he => comp_ends hE h e he v
  omega
theorem flatC_len (hn : out.Nodup) (hr : ∀ v ∈ out, 0 ≤ v ∧ v < n) : (comps es out n).flatten.length + out.length = n := by
  have h1 := flt_two (q := fun v => decide (v ∈ out)) (upTo n)
  have h2 : (comps es out n).flatten.Perm ((upTo n).filter fun v => !decide (v ∈ out)) := by
    refine (List.perm_ext_iff_of_nodup comps_nodup (List.Pairwise.filter _ upTo_nodup)).2 fun u => ?_
    rw [comps_mem, List.mem_filter, upTo_mem]; simp
  have h3 : out.Perm ((upTo n).filter fun v => decide (v ∈ out)) := by
    refine (List.perm_ext_iff_of_nodup hn (List.Pairwise.filter _ upTo_nodup)).2 fun u => ?_
    rw [List.mem_filter, upTo_mem]; simp only [decide_eq_true_eq]
    exact ⟨fun q => ⟨hr u q, q⟩, fun q => q.2⟩
  have := h2.length_eq; have := h3.length_eq; rw [upTo_len] at h1; omega
theorem flatC_miss (hE : ∀ e ∈ es, EOk n e) (hn : out.Nodup) (hr : ∀ v ∈ out, 0 ≤ v ∧ v < n) (h : Mt es (fun v => ¬ v ∈ out) M) : 2 * M.length + (missL M (comps es out n).flatten).length + out.length = n := by
  have hm : ∀ e ∈ M, e.a ∈ (comps es out n).flatten ∧ e.b ∈ (comps es out n).flatten := fun e he => by
    obtain ⟨h1, h2, h3⟩ := h.1 e he; have := hE e h1; unfold EOk at this
    exact ⟨comps_mem.2 ⟨by omega, h2⟩, comps_mem.2 ⟨by omega, h3⟩⟩
  have := miss_len (C := (comps es out n).flatten) (l := M) comps_nodup (fun e he => by have := hE e (h.1 e he).1; unfold EOk at this; omega) h.2 fun e he => ⟨fun _ => (hm e he).2, fun _ => (hm e he).1⟩
  rw [List.filter_eq_self.2 fun e he => decide_eq_true (hm e he).1] at this
  have := flatC_len (es := es) hn hr; omega
theorem odd_miss : ∀ {CL : List (List Int)}, (∀ C ∈ CL, (missL M C).length % 2 = C.length % 2) → oddSum CL ≤ (missL M CL.flatten).length
  | [], _ => Nat.zero_le _
  | C :: CL, h => by
    have ih := odd_miss (CL := CL) fun C hC => h C (List.mem_cons_of_mem _ hC)
    have h0 := h C List.mem_cons_self; unfold missL at *; rw [List.flatten_cons, List.filter_append, List.length_append]; unfold oddSum; omega
theorem odd_one : ∀ {CL : List (List Int)}, (∀ C ∈ CL, (missL M C).length = 1 ∧ C.length % 2 = 1) → oddSum CL = (missL M CL.flatten).length
  | [], _ => rfl
  | C :: CL, h => by
    have ih := odd_one (CL := CL) fun C hC => h C (List.mem_cons_of_mem _ hC)
    have h0 := h C List.mem_cons_self; unfold missL at *; rw [List.flatten_cons, List.filter_append, List.length_append]; unfold oddSum; omega
theorem tutte_le (hE : ∀ e ∈ es, EOk n e) (hn : out.Nodup) (hr : ∀ v ∈ out, 0 ≤ v ∧ v < n) (h : Mt es P l) : 2 * l.length + oddSum (comps es out n) ≤ n + out.length := by
  obtain ⟨q, hq⟩ : ∃ q : E → Bool, ∀ e, q e = decide (e.a ∈ out ∨ e.b ∈ out) := ⟨_, fun _ => rfl⟩
  have qt : ∀ e, q e = true → e.a ∈ out ∨ e.b ∈ out := fun e he => by rw [hq] at he; exact of_decide_eq_true he
  have qf : ∀ e, (!q e) = true → ¬ e.a ∈ out ∧ ¬ e.b ∈ out := fun e he => by
    rw [hq] at he
    have : ¬ (e.a ∈ out ∨ e.b ∈ out) := by simpa using he
    exact ⟨fun k => this (.inl k), fun k => this (.inr k)⟩
  have hs : (l.filter fun e => !q e).length + (l.filter q).length = l.length := by
    clear h
    induction l with
    | nil => rfl
    | cons a l ih =>
      rw [List.filter_cons, List.filter_cons]
      cases q a with
      | true => simp only [Bool.not_true, Bool.false_eq_true, if_false, if_true, List.length_cons]; omega
      | false => simp only [Bool.not_false, Bool.false_eq_true, if_false, if_true, List.length_cons]; omega
  have h1 : Mt es (fun v => ¬ v ∈ out) (l.filter fun e => !q e) := ⟨fun e he => by
    obtain ⟨i1, i2⟩ := List.mem_filter.1 he
    exact ⟨(h.1 e i1).1, qf e i2⟩, List.Pairwise.filter _ h.2⟩
  have h2 : (l.filter q).length ≤ out.length := by
    have hd : ((l.filter q).map fun e => if e.a ∈ out then e.a else e.b).Nodup := by
      refine List.pairwise_map.2 (List.Pairwise.imp (fun {a b} hab => ?_) (List.Pairwise.filter q h.2))
      obtain ⟨r1, r2, r3, r4⟩ := hab
      split <;> split <;> assumption
    have := nsubI_len hd (b := out) fun x hx => by
      obtain ⟨e, he, rfl⟩ := List.mem_map.1 hx; obtain ⟨_, i2⟩ := List.mem_filter.1 he; split
      · assumption
      · exact (qt e i2).resolve_left ‹_›
    rwa [List.length_map] at this
  have h3 := flatC_miss hE hn hr h1
  have h4 := odd_miss (M := l.filter fun e => !q e) (CL := comps es out n) fun C hC => comp_par hE h1 hC
  omega
theorem two_of {l : List Int} (hl : 2 ≤ l.length) (hn : l.Nodup) : ∃ a ∈ l, ∃ b ∈ l, a ≠ b := by
  match l, hl with
  | a :: b :: l, _ =>
    refine ⟨a, List.mem_cons_self, b, List.mem_cons_of_mem _ List.mem_cons_self, fun q => ?_⟩
    exact (List.nodup_cons.1 hn).1 (q ▸ List.mem_cons_self)
theorem tutte_all (hE : ∀ e ∈ es, EOk n e) (hn : out.Nodup) (hr : ∀ v ∈ out, 0 ≤ v ∧ v < n) (all : ∀ v : Int, 0 ≤ v → v < n → ¬ v ∈ out → ∃ M, Grt es out M ∧ ¬ v ∈ endsL M) (hM : Grt es out M) : 2 * M.length + oddSum (comps es out n) + out.length = n := by
  have few : ∀ N, Grt es out N → ∀ C ∈ comps es out n, (missL N C).length ≤ 1 := by
    intro N hN C hC
    refine Classical.byContradiction fun q => ?_
    obtain ⟨v, hv, _, rfl⟩ := comps_is hC
    obtain ⟨a, ha, b, hb, hab⟩ := two_of (l := missL N (compL es out n v)) (by omega) (List.Pairwise.filter _ compL_nodup)
    obtain ⟨a1, a2⟩ := missL_mem.1 ha; obtain ⟨b1, b2⟩ := missL_mem.1 hb; obtain ⟨a3, a4⟩ := compL_mem.1 a1; obtain ⟨_, b4⟩ := compL_mem.1 b1; rcases gallai hE all a3 (a4.symm.trans b4) with r | r
    · exact hab r
    · exact r N hN ⟨a2, b2⟩
  have h1 : ∀ C ∈ comps es out n, (missL M C).length = 1 ∧ C.length % 2 = 1 := by
    intro C hC; have hC' := hC; obtain ⟨v, hv, vo, rfl⟩ := comps_is hC'; obtain ⟨N, hN, nv⟩ := all v hv.1 hv.2 vo; have p1 := comp_par hE hN.1 hC; have p2 := comp_par hE hM.1 hC; have p3 := few N hN _ hC; have p4 := few M hM _ hC; have p5 : v ∈ missL N (compL es out n v) := missL_mem.2 ⟨compL_mem.2 ⟨hv, .refl⟩, nv⟩; have := List.length_pos_of_mem p5; omega
  have h2 := odd_one h1; have h3 := flatC_miss hE hn hr hM.1; omega
theorem grt_ex : ∃ M, Grt es out M ∧ M.length = mm es out := by
  obtain ⟨⟨M, h1, h2⟩, h3⟩ := mm_most es out
  exact ⟨M, ⟨h1, fun l hl => by rw [h2]; exact h3 l hl⟩, h2⟩
theorem tutte (hE : ∀ e ∈ es, EOk n e) : ∀ (k : Nat) (out : List Int), out.Nodup → (∀ v ∈ out, 0 ≤ v ∧ v < n) → n < out.length + k → ∃ S, S.Nodup ∧ (∀ v ∈ S, 0 ≤ v ∧ v < (n : Int)) ∧ 2 * mm es out + 2 * out.length + oddSum (comps es S n) = n + S.length := by
  intro k
  induction k with
  | zero =>
    intro out hn hr h; have := nodup_len hn hr; omega
  | succ k ih =>
    intro out hn hr h; obtain ⟨M, hM, hl⟩ := grt_ex (es := es) (out := out)
    by_cases all : ∀ v : Int, 0 ≤ v → v < n → ¬ v ∈ out → ∃ M, Grt es out M ∧ ¬ v ∈ endsL M
    · have := tutte_all hE hn hr all hM
      exact ⟨out, hn, hr, by omega⟩
    · obtain ⟨v, v0, v1, v2, v3⟩ : ∃ v : Int, 0 ≤ v ∧ v < n ∧ ¬ v ∈ out ∧ ∀ M, Grt es out M → v ∈ endsL M :=
        Classical.byContradiction fun q => all fun v q1 q2 q3 => Classical.byContradiction fun q4 => q ⟨v, q1, q2, q3, fun M hM => Classical.byContradiction fun q5 => q4 ⟨M, hM, q5⟩⟩
      obtain ⟨S, s1, s2, s3⟩ := ih (v :: out) (List.nodup_cons.2 ⟨v2, hn⟩) (fun x hx => by
        rcases List.mem_cons.1 hx with q | q
        · omega
        · exact hr x q) (by rw [List.length_cons]; omega)
      refine ⟨S, s1, s2, ?_⟩; obtain ⟨N, hN, hNl⟩ := grt_ex (es := es) (out := v :: out)
      have le1 : N.length + 1 ≤ M.length := by
        have hNo : Mt es (fun v => ¬ v ∈ out) N := hN.1.imp fun e he p q => ⟨he, fun r => p (List.mem_cons_of_mem _ r), fun r => q (List.mem_cons_of_mem _ r)⟩
        have := hM.2 N hNo; rcases Nat.lt_or_ge N.length M.length with q | q
        · omega
        · exfalso
          have : Grt es out N := ⟨hNo, fun l hl => Nat.le_trans (hM.2 l hl) q⟩
          obtain ⟨e, he, r⟩ := endsL_mem.1 (v3 N this); obtain ⟨_, q1, q2⟩ := hN.1.1 e he; rcases r with r | r
          · exact q1 (r ▸ List.mem_cons_self)
          · exact q2 (r ▸ List.mem_cons_self)
      have le2 : M.length ≤ N.length + 1 := by
        obtain ⟨e, he, r⟩ := endsL_mem.1 (v3 M hM); obtain ⟨m, m1, m2, _⟩ := mt_split hM.1 he
        have := hN.2 m (m1.imp fun f hf p q => ⟨hf, fun k => by
          rcases List.mem_cons.1 k with k | k
          · rcases r with r | r
            · exact p.2.1 (k.trans r)
            · exact p.2.2 (k.trans r)
          · exact p.1 k, fun k => by
          rcases List.mem_cons.1 k with k | k
          · rcases r with r | r
            · exact q.2.1 (k.trans r)
            · exact q.2.2 (k.trans r)
          · exact q.1 k⟩)
        omega
      rw [List.length_cons] at s3; omega
end
end Go.Proofs.Ytafhipglhnfgnaa.Ab
set_option linter.unusedSimpArgs false
set_option linter.unusedVariables false
set_option linter.unnecessarySimpa false
set_option maxHeartbeats 4000000
namespace Go.Proofs.Ytafhipglhnfgnaa.Ab
open Go.RowKit
section
variable {es : List E} {out out' : List Int} {n x v : Nat} {m : List Cp}
theorem bits_ex (P : Int → Bool) : ∀ n : Nat, ∃ x, x < 2 ^ n ∧ ∀ v, v < n → (x / 2 ^ v % 2 = 1 ↔ P v = true)
  | 0 => ⟨0, by simp, fun v h => by omega⟩
  | n + 1 => by
    obtain ⟨x, h1, h2⟩ := bits_ex P n
    have e : ∀ x v : Nat, (x / 2 ^ v % 2 = 1) ↔ x.testBit v = true := fun x v => by rw [Nat.testBit_eq_decide_div_mod_eq, decide_eq_true_eq]
    cases hp : P n with
    | false =>
      refine ⟨x, by rw [Nat.pow_succ]; omega, fun v hv => ?_⟩
      by_cases q : v = n
      · subst q
        rw [e, Nat.testBit_lt_two_pow h1, hp]
      · exact h2 v (by omega)
    | true =>
      refine ⟨2 ^ n + x, by rw [Nat.pow_succ]; omega, fun v hv => ?_⟩
      by_cases q : v = n
      · subst q
        rw [e, Nat.testBit_two_pow_add_eq, Nat.testBit_lt_two_pow h1, hp]; simp
      · rw [e, Nat.testBit_two_pow_add_gt (by omega), ← e]
        exact h2 v (by omega)
theorem bitTo_mem {u : Int} : u ∈ bitTo x n ↔ (0 ≤ u ∧ u < n) ∧ x / 2 ^ u.toNat % 2 = 1 := by
  unfold bitTo; rw [List.mem_map]; constructor
  · rintro ⟨k, hk, rfl⟩
    obtain ⟨h1, h2⟩ := List.mem_filter.1 hk; rw [List.mem_range] at h1; rw [decide_eq_true_eq] at h2; rw [Int.toNat_natCast]
    exact ⟨by omega, h2⟩
  · rintro ⟨h1, h2⟩
    exact ⟨u.toNat, List.mem_filter.2 ⟨List.mem_range.2 (by omega), decide_eq_true h2⟩, by omega⟩
theorem bitTo_nodup : (bitTo x n).Nodup := by
  unfold bitTo
  refine List.Pairwise.map _ (fun a b h => ?_) (List.Pairwise.filter _ (List.nodup_range (n := n)))
  intro e
  exact h (by omega)
theorem adj_congr (h : ∀ v, v ∈ out ↔ v ∈ out') : Adj es out = Adj es out' := by
  funext a b
  unfold Adj; rw [h a, h b]
open Classical in
theorem comps_congr (h : ∀ v, v ∈ out ↔ v ∈ out') : comps es out n = comps es out' n := by
  have h1 : ∀ v, Head es out v = Head es out' v := fun v => by
    unfold Head Cn; rw [h v, adj_congr h]
  have h2 : ∀ v, compL es out n v = compL es out' n v := fun v => by
    unfold compL Cn; rw [adj_congr h]
  unfold comps compsTo; simp only [h1, h2]
theorem blk_is : ∀ k, 0 < k → ∃ x, x < k ∧ blkTo es n k = (bitTo x n, setVal es n x)
  | 0, h => by omega
  | 1, _ => ⟨0, by omega, by unfold blkTo; rw [bitTo_zero]⟩
  | k + 2, _ => by
    obtain ⟨x, h1, h2⟩ := blk_is (k + 1) (by omega)
    unfold blkTo blkStep; split
    · exact ⟨k + 1, by omega, rfl⟩
    · exact ⟨x, by omega, h2⟩
theorem blk_least : ∀ k x, x < k → (blkTo es n k).2 ≤ setVal es n x
  | 0, x, h => by omega
  | 1, x, h => by
    obtain rfl : x = 0 := by omega
    unfold blkTo; exact Int.le_refl _
  | k + 2, x, h => by
    have ih := blk_least (k + 1); unfold blkTo blkStep
    by_cases q : x = k + 1
    · subst q
      split
      · exact Int.le_refl _
      · rename_i hn
        have : ¬ setVal es n (k + 1) < (blkTo es n (k + 1)).2 := fun r => hn (.inl r)
        omega
    · have i1 := ih x (by omega)
      split
      · rename_i hn
        show setVal es n (k + 1) ≤ setVal es n x; rcases hn with r | r
        · omega
        · have := r.1; omega
      · exact i1
theorem blocks_val (g : GOk (n : Int) es) : (n : Int) + (blocksL es n).length - (oddSum (comps es (blocksL es n) n) : Nat) = 2 * (mm es [] : Nat) := by
  have hE : ∀ e ∈ es, EOk n e := fun e he => gok_mem g he
  obtain ⟨S, s1, s2, s3⟩ := tutte hE (n + 1) [] List.nodup_nil (fun v h => absurd h List.not_mem_nil) (by simp)
  obtain ⟨M, hM, hl⟩ := grt_ex (es := es) (out := [])
  obtain ⟨x, x1, x2⟩ := bits_ex (fun v => decide (v ∈ S)) n
  have hS : ∀ v, v ∈ S ↔ v ∈ bitTo x n := fun v => by
    rw [bitTo_mem]; constructor
    · intro h
      have := s2 v h
      refine ⟨this, (x2 v.toNat (by omega)).2 (decide_eq_true ?_)⟩
      rw [show ((v.toNat : Nat) : Int) = v by omega]
      exact h
    · rintro ⟨h1, h2⟩
      have := of_decide_eq_true ((x2 v.toNat (by omega)).1 h2)
      rwa [show ((v.toNat : Nat) : Int) = v by omega] at this
  have hp := (List.perm_ext_iff_of_nodup s1 bitTo_nodup).2 hS; have hlen := hp.length_eq; have hco := comps_congr (es := es) (n := n) hS; obtain ⟨y, y1, y2⟩ := blk_is (es := es) (n := n) (2 ^ n) (Nat.two_pow_pos n); have hle := blk_least (es := es) (n := n) (2 ^ n) x x1
  have hb : blocksL es n = bitTo y n := by
    unfold blocksL; rw [if_pos g, Int.toNat_natCast, y2]
  have hge := tutte_le (n := n) (out := bitTo y n) hE bitTo_nodup (fun v hv => (bitTo_mem.1 hv).1) hM.1
  rw [hb]; rw [y2] at hle; unfold setVal at hle; simp only at hle; rw [← hco, ← hlen] at hle; rw [hl] at hge; simp only [List.length_nil] at s3; omega
theorem set_val (g : GOk (n : Int) es) (hn : out.Nodup) (hr : ∀ v ∈ out, 0 ≤ v ∧ v < n) : 2 * ((mm es [] : Nat) : Int) ≤ (n : Int) + out.length - (oddSum (comps es out n) : Nat) := by
  obtain ⟨M, hM, hl⟩ := grt_ex (es := es) (out := [])
  have hge := tutte_le (n := n) (out := out) (fun e he => gok_mem g he) hn hr hM.1
  omega
theorem mok_most (g : MOk (n : Int) es m) : m.length ≤ mm es [] := by
  have h := edL_mt g
  have := (mm_most es []).2 (edL es m) (h.imp fun e he _ _ => ⟨he, List.not_mem_nil, List.not_mem_nil⟩)
  unfold edL at this
  rwa [List.length_map] at this
end
end Go.Proofs.Ytafhipglhnfgnaa.Ab
set_option linter.unusedSimpArgs false
set_option linter.unusedVariables false
set_option linter.unnecessarySimpa false
set_option maxHeartbeats 4000000
namespace Go.Proofs.Ytafhipglhnfgnaa.Ab
open Go.RowKit
theorem andN {x y : Nat} (hx : x < 4611686018427387904) (hy : y < 4611686018427387904) : andI .i64 (x : Int) (y : Int) = ((x &&& y : Nat) : Int) := by
  have h1 : (BitVec.ofInt 64 (x : Int)).toNat = x := by rw [BitVec.toNat_ofInt]; omega
  have h2 : (BitVec.ofInt 64 (y : Int)).toNat = y := by rw [BitVec.toNat_ofInt]; omega
  unfold andI; show IntKind.i64.wrap (((BitVec.ofInt 64 (x : Int) &&& BitVec.ofInt 64 (y : Int)).toNat : Nat) : Int) = _; rw [BitVec.toNat_and, h1, h2]; have := Nat.and_le_left (n := x) (m := y)
  exact w64 (by omega) (by omega)
theorem orN {x y : Nat} (hx : x < 512) (hy : y < 512) : orI .i64 (x : Int) (y : Int) = ((x ||| y : Nat) : Int) := by
  have h1 : (BitVec.ofInt 64 (x : Int)).toNat = x := by rw [BitVec.toNat_ofInt]; omega
  have h2 : (BitVec.ofInt 64 (y : Int)).toNat = y := by rw [BitVec.toNat_ofInt]; omega
  unfold orI; show IntKind.i64.wrap (((BitVec.ofInt 64 (x : Int) ||| BitVec.ofInt 64 (y : Int)).toNat : Nat) : Int) = _; rw [BitVec.toNat_or, h1, h2]
  have : x ||| y < 2 ^ 9 := Nat.or_lt_two_pow (by omega) (by omega)
  exact w64 (by omega) (by omega)
def Tk (x : Nat) (u : List Int) : Prop := x < 512 ∧ ∀ v : Nat, v < 9 → (x.testBit v = true ↔ (v : Int) ∈ u)
theorem tk_nil : Tk 0 [] := ⟨by omega, fun v _ => by simp⟩
theorem two_lt {a : Nat} (ha : a < 9) : 2 ^ a < 512 := Nat.pow_lt_pow_right (by omega) ha
theorem both_lt {a b : Nat} (ha : a < 9) (hb : b < 9) : 2 ^ a ||| 2 ^ b < 512 := Nat.or_lt_two_pow (n := 9) (two_lt ha) (two_lt hb)
theorem tk_free {x a b : Nat} {u : List Int} (h : Tk x u) (ha : a < 9) (hb : b < 9) : (x &&& (2 ^ a ||| 2 ^ b)) = 0 ↔ ¬ ((a : Int) ∈ u ∨ (b : Int) ∈ u) := by
  rw [← h.2 a ha, ← h.2 b hb]; constructor
  · intro e q
    have key : ∀ i, (x &&& (2 ^ a ||| 2 ^ b)).testBit i = false := fun i => by rw [e]; simp
    rcases q with q | q
    · have := key a
      simp [Nat.testBit_and, Nat.testBit_or, Nat.testBit_two_pow_self, q] at this
    · have := key b
      simp [Nat.testBit_and, Nat.testBit_or, Nat.testBit_two_pow_self, q] at this
  · intro q
    apply Nat.eq_of_testBit_eq
    intro i; rw [Nat.testBit_and, Nat.testBit_or, Nat.testBit_two_pow, Nat.testBit_two_pow, Nat.zero_testBit]
    by_cases h1 : a = i
    · subst h1
      have : x.testBit a = false := by simpa using fun e => q (.inl e)
      simp [this]
    · by_cases h2 : b = i
      · subst h2
        have : x.testBit b = false := by simpa using fun e => q (.inr e)
        simp [this]
      · simp [h1, h2]
theorem tk_take {x a b : Nat} {u : List Int} (h : Tk x u) (ha : a < 9) (hb : b < 9) : Tk (x ||| (2 ^ a ||| 2 ^ b)) ((a : Int) :: (b : Int) :: u) := by
  refine ⟨Nat.or_lt_two_pow (n := 9) h.1 (both_lt ha hb), fun v hv => ?_⟩
  rw [Nat.testBit_or, Nat.testBit_or, Nat.testBit_two_pow, Nat.testBit_two_pow]; simp only [Bool.or_eq_true, decide_eq_true_eq, List.mem_cons, h.2 v hv]; constructor
  · rintro (q | q | q)
    · exact .inr (.inr q)
    · exact .inl (by omega)
    · exact .inr (.inl (by omega))
  · rintro (q | q | q)
    · exact .inr (.inl (by omega))
    · exact .inr (.inr (by omega))
    · exact .inl q
def oneE (e : E) : E := ⟨e.a, e.b, 1, 0, 0⟩
theorem mm_one : ∀ (es : List E) (u : List Int), mm (es.map oneE) u = mm es u
  | [], _ => rfl
  | e :: es, u => by
    rw [List.map_cons]; have h3 : mm (es.map oneE) ((oneE e).a :: (oneE e).b :: u) = mm es (e.a :: e.b :: u) := mm_one es _; unfold mm; rw [mm_one es u, h3]; rfl
theorem most_first {es : List E} {n : Int} {w : Nat} (hE : ∀ e ∈ es, EOk n e) (h : Most (es.map oneE) (Fr 0 []) w) : w = mm es [] := by
  have h2 := mm_most (es.map oneE) []; rw [mm_one] at h2
  refine h.eq (h2.congr (fun e he _ _ => ?_) fun e he _ _ => ⟨he, List.not_mem_nil, List.not_mem_nil⟩)
  obtain ⟨e', he', rfl⟩ := List.mem_map.1 he; have := hE e' he'; unfold EOk at this; have h1 : (oneE e').a = e'.a := rfl; have h3 : (oneE e').b = e'.b := rfl
  exact ⟨he, ⟨by omega, List.not_mem_nil⟩, ⟨by omega, List.not_mem_nil⟩⟩
end Go.Proofs.Ytafhipglhnfgnaa.Ab
set_option linter.unusedSimpArgs false
set_option linter.unusedVariables false
set_option linter.unnecessarySimpa false
set_option maxHeartbeats 4000000
namespace Go.Proofs.Ytafhipglhnfgnaa.Ab
open Go.RowKit
section
variable {X : CallF} {h : Heap} {ev : Value} {es : List E}
theorem k_spec_Better {a b : Int} : C T X n_spec_Better [.agg ⟨[.int .i64 a, .int .i64 0, .int .i64 0]⟩, .agg ⟨[.int .i64 b, .int .i64 0, .int .i64 0]⟩] h = some (.bool (decide (b < a)), h) := by
  refine C_go t_spec_Better rfl ?_; unfold F_spec_Better; simp only [go_sem]
  by_cases c1 : a = b
  · subst c1
    simp only [go_sem]; simp
  · simp only [c1, go_sem]
def bestV (w : Nat) (c : Int) : Value := .tuple ⟨[.agg ⟨[.int .i64 (w : Int), .int .i64 0, .int .i64 0]⟩, .int .i64 c]⟩
theorem most_skips {es : List E} {k : Int} {u : List Int} {w : Nat} : ∀ (d : Nat), (∀ j : Int, k ≤ j → j < k + d → j ∈ u) → Most es (Fr (k + d) u) w → Most es (Fr k u) w
  | 0, _, h => by simpa using h
  | d + 1, hu, h => by
    refine most_skips d (fun j a b => hu j a (by omega)) (most_skip (hu _ (by omega) (by omega)) ?_)
    have : k + (d : Int) + 1 = k + ((d + 1 : Nat) : Int) := by omega
    rw [this]; exact h
theorem k_spec_l09Best {n : Nat} (hn : n ≤ 9) (hl : es.length ≤ lim) (hE : ∀ e ∈ es, EOk n e) (hW : ∀ e ∈ es, e.w1 = 1 ∧ e.w2 = 0 ∧ e.w3 = 0) : ∀ (m k : Nat) (u : List Int) (uv : Value) (h : Heap), n ≤ k + m → k ≤ n → u.length ≤ k → Rows h 5 ev (edges es) → Rows h 1 uv (ints u) →
    ∃ (w : Nat) (c : Int), C T X n_spec_l09Best [graphV n ev, .int .i64 (k : Int), uv] h = some (bestV w c, h) ∧ w ≤ n - k ∧ Most es (Fr k u) w := by
  intro m
  induction m using Nat.strongRecOn with
  | _ m ih =>
  intro k u uv h hm hk hul he hu
  suffices hs : ∃ v hh, C T X n_spec_l09Best [graphV n ev, .int .i64 (k : Int), uv] h = some (v, hh) ∧ hh = h ∧ ∃ (w : Nat) (c : Int), v = bestV w c ∧ w ≤ n - k ∧ Most es (Fr k u) w by
    obtain ⟨v, hh, c1, rfl, w, c, rfl, c2⟩ := hs; exact ⟨w, c, c1, c2⟩
  refine C_ex t_spec_l09Best rfl ?_; unfold F_spec_l09Best graphV; simp only [go_sem]
  refine w_meas (n - k) (fun r t loc h' => h' = h ∧ loc 3 = some [.int .i64 n, ev] ∧ loc 6 = some [.int .i64 0, .int .i64 0, .int .i64 0] ∧ t 2 = uv ∧ ∃ i : Nat, r + i = n - k ∧ t 1 = .int .i64 ((k + i : Nat) : Int) ∧ ∀ j : Int, (k : Int) ≤ j → j < k + i → j ∈ u) ⟨rfl, rfl, rfl, rfl, 0, rfl, rfl, fun j a b => by omega⟩ ?_
  rintro r t loc h' ⟨rfl, l3, l6, t2, i, hr, t1, hall⟩; obtain ⟨K, hK⟩ : ∃ K, K = k + i := ⟨_, rfl⟩; rw [← hK] at t1
  have ck := k_spec_l03In (X := X) (n := (K : Int)) hu (by unfold lim; omega)
  simp only [l3, t1, t2, go_sem]
  by_cases s1 : (K : Int) < (n : Int)
  · by_cases s2 : (K : Int) ∈ u
    · have hw : IntKind.i64.wrap ((K : Int) + 1) = ((k + (i + 1) : Nat) : Int) := by
        rw [w64 (by omega) (by omega)]
        omega
      simp only [s1, s2, l3, t1, t2, ck, hw, go_sem]
      refine ⟨r - 1, by omega, l6, i + 1, by omega, rfl, fun j a b => ?_⟩
      by_cases hj : j < (k : Int) + i
      · exact hall j a hj
      · have : j = (K : Int) := by omega
        rw [this]; exact s2
    · have hw : IntKind.i64.wrap ((K : Int) + 1) = ((K + 1 : Nat) : Int) := w64 (by omega) (by omega)
      have ih1 := ih (m - 1) (by omega)
      obtain ⟨w0, c0, b1, b2, b3⟩ := ih1 (K + 1) u uv h' (by omega) (by omega) (by omega) he hu
      unfold graphV bestV at b1
      have hge : ¬ ((K : Int) ≥ (n : Int)) := by omega
      simp only [s1, s2, hge, l3, l6, t1, t2, ck, hw, b1, go_sem]
      have fin : ∀ (w : Nat), w ≤ n - K → MostTo es (K : Int) u (n : Int) w → w ≤ n - k ∧ Most es (Fr k u) w := fun w a b => by
        refine ⟨by omega, most_skips i (fun j p q => hall j p q) ?_⟩
        rw [show (k : Int) + (i : Int) = (K : Int) by omega]
        exact mostTo_end hE b
      refine w_meas (n - (K + 1)) (fun r t loc h2 => h' <+: h2 ∧ loc 3 = some [.int .i64 n, ev] ∧ loc 6 = some [.int .i64 0, .int .i64 0, .int .i64 0] ∧ t 1 = .int .i64 (K : Int) ∧ t 2 = uv ∧ ∃ (j w : Nat) (c : Int), r + j = n - (K + 1) ∧ loc 8 = some [.int .i64 (w : Int), .int .i64 0, .int .i64 0] ∧ t 9 = .int .i64 c ∧ t 10 = .int .i64 ((K + 1 + j : Nat) : Int) ∧ w ≤ n - K ∧ MostTo es (K : Int) u ((K + 1 + j : Nat) : Int) w)
        ⟨List.prefix_refl _, rfl, rfl, rfl, rfl, 0, w0, c0, rfl, rfl, rfl, rfl, by omega, mostTo_start hE b3⟩ ?_
      rintro r2 t loc h2 ⟨hp, l3, l6, t1, t2, j, w, c, hr2, l8, t9, t10, hwn, hmt⟩; obtain ⟨B, hB⟩ : ∃ B, B = K + 1 + j := ⟨_, rfl⟩; rw [← hB] at t10 hmt; have he2 := he.up hp; have hu2 := hu.up hp; simp only [l3, t10, go_sem]
      refine w_open (by simp only [go_sem]; rfl) ?_ ?_ <;> intro hc
      · have hw2 : IntKind.i64.wrap ((B : Int) + 1) = ((K + 1 + (j + 1) : Nat) : Int) := by
          rw [w64 (by omega) (by omega)]
          omega
        have hnext : ((K + 1 + (j + 1) : Nat) : Int) = (B : Int) + 1 := by omega
        have cat := k_spec_l08At (X := X) (h := h2) (size := (n : Int)) (x := (K : Int)) (y := (B : Int)) he2 hl; unfold graphV at cat
        have cin := k_spec_l03In (X := X) (n := (B : Int)) hu2 (by unfold lim; omega)
        by_cases c1 : edgeIx es (K : Int) (B : Int) < 0
        · simp only [l3, l6, l8, t1, t2, t9, t10, cat, c1, hw2, go_sem]
          exact ⟨r2 - 1, by omega, hp, j + 1, w, c, by omega, rfl, rfl, rfl, hwn, by rw [hnext]; exact mostTo_no hE hmt (.inl c1)⟩
        by_cases c2 : (B : Int) ∈ u
        · simp only [l3, l6, l8, t1, t2, t9, t10, cat, cin, c1, c2, hw2, go_sem]
          exact ⟨r2 - 1, by omega, hp, j + 1, w, c, by omega, rfl, rfl, rfl, hwn, by rw [hnext]; exact mostTo_no hE hmt (.inr c2)⟩
        have hin : ∃ i0 : Nat, edgeIx es (K : Int) (B : Int) = (i0 : Int) ∧ i0 < es.length := by
          rcases firstIx_cases (p := Join (K : Int) (B : Int)) e0 es with ⟨q1, _⟩ | ⟨i0, q1, q2, _⟩
          · unfold edgeIx at c1; omega
          · exact ⟨i0, q1, q2⟩
        obtain ⟨i0, hi0, hi1⟩ := hin; have hwi := hW _ (getD_mem (d := e0) hi1)
        have c1' : ¬ ((i0 : Int) < 0) := by omega
        rw [hi0] at cat; obtain ⟨g, hg⟩ : ∃ g : Heap, g = h2 ++ [⟨[], 1, y_int, true⟩] := ⟨_, rfl⟩
        have hgl : g.length = h2.length + 1 := by rw [hg]; simp
        have hpg : h2 <+: g := by rw [hg]; exact List.prefix_append _ _
        have og : Own g h2.length (h2.length + 1) 1 y_int (.slice (some ⟨h2.length, 0, none⟩) 0 0) [] := by rw [← hgl, hg]; exact Acc.new.own
        obtain ⟨v3, h3, c3, q1, q2, o3⟩ := og.app (by omega) (hu2.up hpg) (by rw [List.length_nil, ints_len]; unfold lim; omega)
        have hp3 : h2 <+: h3 := pre_push hpg (Nat.le_refl _) q1 q2; rw [List.nil_append] at o3
        obtain ⟨v4, h4, c4, q3, q4, o4⟩ := o3.push1 (by omega) [.int .i64 (B : Int)] rfl (by rw [ints_len]; unfold lim; omega)
        have hp4 : h2 <+: h4 := pre_push hp3 (Nat.le_refl _) q3 q4
        have hr4 : Rows h4 1 v4 (ints (u ++ [(B : Int)])) := by simpa [ints] using o4.rows
        obtain ⟨w1, c1x, d1, d2, d3⟩ := ih1 (K + 1) (u ++ [(B : Int)]) v4 h4 (by omega) (by omega) (by simp; omega) (he2.up hp4) hr4
        unfold graphV bestV at d1; have el := edge_el (he2.up hp4) hi1
        have hz : IntKind.i64.wrap (0 + 0) = 0 := by decide
        have hws : IntKind.i64.wrap ((w1 : Int) + 1) = ((w1 + 1 : Nat) : Int) := w64 (by omega) (by omega)
        have hwk : IntKind.i64.wrap ((K : Int) + 1) = ((K + 1 : Nat) : Int) := w64 (by omega) (by omega)
        have hmx := mostTo_yes hE hmt s2 (by omega) c1 c2 (by rw [show (K : Int) + 1 = ((K + 1 : Nat) : Int) by omega]; exact d3)
        by_cases c5 : (w : Int) < ((w1 + 1 : Nat) : Int)
        · simp only [zeros, fillAt, ← hg, l3, l6, l8, t1, t2, t9, t10, cat, cin, c1', c2, c3, c4, hp4, d1, el.1, el.2.2.1, hwi.1, hwi.2.1, hwi.2.2, hz, hws, hwk, k_spec_Better, c5, hw2, go_sem]
          refine ⟨r2 - 1, by omega, hp.trans hp4, j + 1, w1 + 1, _, by omega, rfl, rfl, rfl, by omega, ?_⟩
          rw [hnext]
          rw [Nat.max_eq_right (by omega)] at hmx
          exact hmx
        · simp only [zeros, fillAt, ← hg, l3, l6, l8, t1, t2, t9, t10, cat, cin, c1', c2, c3, c4, hp4, d1, el.1, el.2.2.1, hwi.1, hwi.2.1, hwi.2.2, hz, hws, hwk, k_spec_Better, c5, hw2, go_sem]
          refine ⟨r2 - 1, by omega, hp.trans hp4, j + 1, w, _, by omega, rfl, rfl, rfl, by omega, ?_⟩
          rw [hnext]
          rw [Nat.max_eq_left (by omega)] at hmx
          exact hmx
      · have hBn : B = n := by omega
        rw [hBn] at hmt; simp only [l6, l8, t9, go_sem]; rw [finish_flat rfl hp]; exact ⟨rfl, w, c, rfl, (fin w hwn hmt).1, (fin w hwn hmt).2⟩
  · have hge : ((K : Int) ≥ (n : Int)) := by omega
    simp only [s1, hge, l3, l6, t1, t2, go_sem]
    exact ⟨0, 1, rfl, by omega, most_skips i (fun j p q => hall j p q) (by
      rw [show (k : Int) + (i : Int) = (K : Int) by omega]
      exact most_end hE hge)⟩
end
end Go.Proofs.Ytafhipglhnfgnaa.Ab
