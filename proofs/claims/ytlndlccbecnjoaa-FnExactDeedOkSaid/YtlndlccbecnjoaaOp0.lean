/- Arguments: what a reading of numbers, texts, bools, structs and slices of them tells, as an abstract memory of which nothing is one's own. No conditions. -/
import Derived.Test.YtlndlccbecnjoaaR0
import Derived.ChangeArms
import Derived.Deep.Slices
namespace Go.Proofs.Ytlndlccbecnjoaa.Ab
set_option linter.unusedSimpArgs false
set_option linter.unusedVariables false
set_option linter.unnecessarySimpa false
open Go.RowKit

/-- Kinds of cells. -/
inductive CK where
  | int (k : IntKind)
  | bool
  | str
  | sl (e : List CK)

/-- What an argument's cell shows. -/
inductive Shape (h : Heap) : CK → Value → Prop
  | int (k : IntKind) (n : Int) (hw : (Lit.int k n).wf = true) : Shape h (.int k) (.int k n)
  | bool (b : Bool) : Shape h .bool (.bool b)
  | str (s : ByteArray) (hs : s.size ≤ maxLen) : Shape h .str (.string s)
  | sl (e : List CK) (v : Value) (rows : List (List Value)) (hr : Rows h e.length v rows) (hm : rows.length ≤ maxLen)
      (hk : ∀ r ∈ rows, ∀ (i : Nat) (k : CK) (x : Value), e[i]? = some k → r[i]? = some x → Shape h k x) : Shape h (.sl e) v

theorem Shape.up {h h' : Heap} (hp : h <+: h') {k : CK} {v : Value} (s : Shape h k v) : Shape h' k v := by
  induction s with
  | int k n hw => exact .int k n hw
  | bool b => exact .bool b
  | str s hs => exact .str s hs
  | sl e v rows hr hm hk ih => exact .sl e v rows (hr.up hp) hm ih

def fieldsK (P : Program) (g : TypeId → Option (List CK)) : Nat → List Field → Option (List CK)
  | _, [] => some []
  | off, f :: fs => match g f.type with
    | some ks => if f.offset = off ∧ ks.length = P.cellsOf f.type then (fieldsK P g (off + ks.length) fs).map (ks ++ ·) else none
    | none => none

def kindsOf (P : Program) : Nat → TypeId → Option (List CK)
  | 0, _ => none
  | n + 1, t => match P.underlying t with
    | some (.int k) => some [.int k]
    | some .bool => some [.bool]
    | some .string => some [.str]
    | some (.slice e) => match kindsOf P n e with
      | some ks => if ks.length = P.cellsOf e ∧ 0 < ks.length then some [.sl ks] else none
      | none => none
    | some (.struct fs) => match fieldsK P (kindsOf P n) 0 fs.toList with
      | some ks => if ks.length = P.cellsOf t then some ks else none
      | none => none
    | _ => none

def NoOwn (h : Heap) : Prop := ∀ (b : Nat) (blk : Blk), h[b]? = some blk → blk.own = false


/-- A block that is only read. -/
theorem HRel.show {μ : Map} {h : Heap} {w : World} (k : HRel μ h w) (hn : NoOwn h) {blk : Blk} (ho : blk.own = false) (hp : 0 < blk.sz) {l : Loc} (hl : l.g < w.heap.size)
    (hc : ∀ (i : Nat) (v : Value), blk.cells[i]? = some v → ∃ v', w.cell? ⟨l.g, l.o + i, none⟩ = some v' ∧ VR1 μ h v v') :
    HRel (μ.to h.length l) (h ++ [blk]) w ∧ Up μ h (μ.to h.length l) (h ++ [blk]) ∧ NoOwn (h ++ [blk]) := by
  have up := Up.push μ h l blk
  have no : NoOwn (h ++ [blk]) := fun b b' hb => by
    rcases push_get hb with ⟨_, rfl⟩ | ⟨_, hb⟩
    · exact ho
    · exact hn _ _ hb
  refine ⟨⟨fun b' blk' hb' i v hv => ?_, fun b' blk' hb' => ?_, fun b' blk' hb' => ?_, fun b' blk' hb' ho' => ?_, fun b1 b2 blk1 blk2 h1 h2 h3 h4 => ?_⟩, up, no⟩
  · rcases push_get hb' with ⟨rfl, rfl⟩ | ⟨hlt, hb'⟩
    · obtain ⟨v', h1, h2⟩ := hc i v hv
      exact ⟨v', by rw [Map.to_same]; exact h1, h2.up up⟩
    · obtain ⟨v', h1, h2⟩ := k.cell b' blk' hb' i v hv
      exact ⟨v', by rw [Map.to_ne _ _ (by omega)]; exact h1, h2.up up⟩
  · rcases push_get hb' with ⟨rfl, rfl⟩ | ⟨hlt, hb'⟩
    · exact hp
    · exact k.pos _ _ hb'
  · rcases push_get hb' with ⟨rfl, rfl⟩ | ⟨hlt, hb'⟩
    · rw [Map.to_same]; exact hl
    · rw [Map.to_ne _ _ (by omega)]; exact k.lt _ _ hb'
  · rw [no _ _ hb'] at ho'; cases ho'
  · rw [no _ _ h1] at h3; cases h3


/-- These cells can be shown. -/
def Opens (w : World) (ks : List CK) (cs : List Value) : Prop := ∀ (h : Heap) (μ : Map), HRel μ h w → NoOwn h → ∃ h' μ' acs, h <+: h' ∧ Up μ h μ' h' ∧ HRel μ' h' w ∧ NoOwn h' ∧ All2 (VR0 μ' h') acs cs ∧ All2 (Shape h') ks acs

theorem Opens.nil {w : World} : Opens w [] [] := fun h μ H N => ⟨h, μ, [], List.prefix_refl _, Up.refl _ _, H, N, All2.nil, All2.nil⟩

theorem Opens.append {w : World} {ks1 ks2 : List CK} {cs1 cs2 : List Value} (o1 : Opens w ks1 cs1) (o2 : Opens w ks2 cs2) : Opens w (ks1 ++ ks2) (cs1 ++ cs2) := by
  intro h μ H N
  obtain ⟨h1, μ1, a1, p1, u1, H1, N1, v1, s1⟩ := o1 h μ H N
  obtain ⟨h2, μ2, a2, p2, u2, H2, N2, v2, s2⟩ := o2 h1 μ1 H1 N1
  exact ⟨h2, μ2, a1 ++ a2, p1.trans p2, u1.trans u2, H2, N2, (v1.imp fun _ _ k => k.up u2).append v2, (s1.imp fun _ _ k => k.up p2).append s2⟩

theorem Opens.one {w : World} {k : CK} {v : Value} (hp : prim v = true) (hs : ∀ h, Shape h k v) : Opens w [k] [v] := fun h μ H N =>
  ⟨h, μ, [v], List.prefix_refl _, Up.refl _ _, H, N, All2.cons (.prim _ hp) All2.nil, All2.cons (hs h) All2.nil⟩

theorem opens_fields {P : Program} {w : World} {g : TypeId → Option (List CK)} {cs : List Value} : ∀ (fs : List Field) (off : Nat) (ks : List CK), fieldsK P g off fs = some ks → off + ks.length ≤ cs.length →
    (∀ f ∈ fs, ∀ k, g f.type = some k → Opens w k ((cs.drop f.offset).take (P.cellsOf f.type))) → Opens w ks ((cs.drop off).take ks.length)
  | [], off, ks, h, _, _ => by simp [fieldsK] at h; subst h; simpa using Opens.nil
  | f :: fs, off, ks, h, hl, ho => by
    simp only [fieldsK] at h
    split at h
    · rename_i k hk
      split at h
      · rename_i hc
        obtain ⟨h1, h2⟩ := hc
        simp only [Option.map_eq_some_iff] at h
        obtain ⟨ks', h3, rfl⟩ := h
        simp only [List.length_append] at hl
        have o1 := ho f List.mem_cons_self k hk
        rw [h1, ← h2] at o1
        have o2 := opens_fields fs (off + k.length) ks' h3 (by omega) fun f hf => ho f (List.mem_cons_of_mem _ hf)
        have e : (cs.drop off).take (k ++ ks').length = (cs.drop off).take k.length ++ (cs.drop (off + k.length)).take ks'.length := by
          rw [List.length_append, List.take_add, List.drop_drop]
        rw [e]
        exact o1.append o2
      · cases h
    · cases h

theorem add_block (a : Addr) (n : Nat) : (a.add n).block = a.block := by unfold Addr.add; split <;> rfl

/-- The rows that lie at a place. -/
theorem opens_rows {w : World} {a : Addr} {e : List CK} {n : Nat} (hr : ∀ i, i < n → ∃ cs, cs.length = e.length ∧ (∀ j, j < e.length → w.cell? (a.add (i * e.length + j)) = cs[j]?) ∧ Opens w e cs) :
    ∀ (h : Heap) (μ : Map), HRel μ h w → NoOwn h → ∃ (h' : Heap) (μ' : Map) (rows : List (List Value)) (flat : List Value), h <+: h' ∧ Up μ h μ' h' ∧ HRel μ' h' w ∧ NoOwn h' ∧ rows.length = n ∧ (∀ r ∈ rows, All2 (Shape h') e r) ∧ All2 (VR0 μ' h') rows.flatten flat ∧ flat.length = n * e.length ∧ ∀ q, q < n * e.length → w.cell? (a.add q) = flat[q]? := by
  induction n with
  | zero => exact fun h μ H N => ⟨h, μ, [], [], List.prefix_refl _, Up.refl _ _, H, N, rfl, fun _ h => (by cases h), All2.nil, by simp, fun q hq => by omega⟩
  | succ n ih =>
    intro h μ H N
    obtain ⟨h1, μ1, rows, flat, p1, u1, H1, N1, l1, s1, v1, f1, g1⟩ := ih (fun i hi => hr i (by omega)) h μ H N
    obtain ⟨cs, c1, c2, c3⟩ := hr n (by omega)
    obtain ⟨h2, μ2, acs, p2, u2, H2, N2, v2, s2⟩ := c3 h1 μ1 H1 N1
    refine ⟨h2, μ2, rows ++ [acs], flat ++ cs, p1.trans p2, u1.trans u2, H2, N2, by simp [l1], fun r hr => ?_, ?_, ?_, fun q hq => ?_⟩
    · rcases List.mem_append.1 hr with hr | hr
      · exact (s1 r hr).imp fun _ _ k => k.up p2
      · rw [List.mem_singleton.1 hr]; exact s2
    · rw [List.flatten_append]
      simpa using (v1.imp fun _ _ k => k.up u2).append v2
    · rw [List.length_append, f1, c1, Nat.add_mul, Nat.one_mul]
    · rw [Nat.add_mul, Nat.one_mul] at hq
      by_cases hlt : q < n * e.length
      · rw [g1 q hlt, List.getElem?_append_left (by omega)]
      · have := c2 (q - n * e.length) (by omega)
        rw [show n * e.length + (q - n * e.length) = q by omega] at this
        rw [this, List.getElem?_append_right (by omega), f1]


theorem mem_index {fs : List Field} {f : Field} (h : f ∈ fs) : ∃ i : Nat, fs[i]? = some f := by
  obtain ⟨i, hi, e⟩ := List.mem_iff_getElem.1 h
  exact ⟨i, by rw [List.getElem?_eq_getElem hi, e]⟩

theorem row_of_flat {rows : List (List Value)} {sz : Nat} (hl : ∀ r ∈ rows, r.length = sz) {flat : List Value} {μ : Map} {h : Heap} (v : All2 (VR0 μ h) rows.flatten flat) {q : Nat} {x : Value} (hx : rows.flatten[q]? = some x) : ∃ y, flat[q]? = some y ∧ VR1 μ h x y := by
  obtain ⟨y, hy, k⟩ := v.get hx
  exact ⟨y, hy, .base _ _ k⟩

/-- What is read of an argument can be shown. -/
theorem opens_kinds {H : Type} {enc : TypeId × Value → H} {P : Program} {w : World} {spare : Nat → Bool} {held : Bool} (hsp : ∀ b, spare b = true) : ∀ (n : Nat) (t : TypeId) (ks : List CK), kindsOf P n t = some ks →
    ∀ (fuel : Nat) (cs : List Value) (x : DataW H × List MemPlace), DataW.trod enc P w 0 spare held fuel t cs = some x → Opens w ks cs
  | 0, t, ks, h => by cases h
  | n + 1, t, ks, h => by
    intro fuel cs x hx
    simp only [kindsOf] at h
    split at h
    · rename_i k ht
      cases h
      obtain ⟨m, rfl, _, hw⟩ := DataW.trod_int ht hx
      exact Opens.one rfl fun _ => .int k m hw
    · rename_i ht
      cases h
      obtain ⟨b, rfl, _⟩ := DataW.trod_bool ht hx
      exact Opens.one rfl fun _ => .bool b
    · rename_i ht
      cases h
      obtain ⟨b, rfl, _, hw⟩ := DataW.trod_string ht hx
      exact Opens.one rfl fun _ => .str b hw
    · rename_i e ht
      split at h
      · rename_i ke hke
        split at h
        · rename_i hc
          obtain ⟨hc1, hc2⟩ := hc
          cases h
          rcases Go.Deep.open_slice ht hx with ⟨rfl, _⟩ | ⟨a, len, cap, m, k, D, Pl, rfl, _, hlc, hcm, hm, _, hi⟩
          · exact Opens.one rfl fun _ => .sl ke _ [] Rows.nil (Nat.zero_le _) (fun _ h => by cases h)
          · rw [hsp, if_pos rfl] at hm
            subst hm
            have hrow : ∀ i, i < m → ∃ cs, cs.length = ke.length ∧ (∀ j, j < ke.length → w.cell? (a.add (i * ke.length + j)) = cs[j]?) ∧ Opens w ke cs := fun i him => by
              obtain ⟨cs', hc', ht'⟩ := hi i him
              obtain ⟨_, hcl, hat⟩ := World.cells?_some hc'
              rw [← hc1] at hcl hat
              refine ⟨cs', hcl, fun j hj => ?_, opens_kinds hsp n e ke hke k cs' _ ht'⟩
              rw [← Go.Deep.add_add]
              exact hat j hj
            by_cases hz : m = 0
            · subst hz
              obtain rfl : len = 0 := by omega
              exact fun h μ H N => ⟨h, μ, [.slice none 0 0], List.prefix_refl _, Up.refl _ _, H, N, All2.cons (.hollow a) All2.nil, All2.cons (.sl ke _ [] Rows.nil (Nat.zero_le _) (fun _ h => by cases h)) All2.nil⟩
            · intro h μ H N
              obtain ⟨h1, μ1, rows, flat, p1, u1, H1, N1, l1, s1, v1, f1, g1⟩ := opens_rows (n := len) (fun i hi => hrow i (by omega)) h μ H N
              have hsz : ∀ r ∈ rows, r.length = ke.length := fun r hr => (s1 r hr).1.symm
              obtain ⟨c0, q1, q2, _⟩ := hrow 0 (by omega)
              have hcell : w.cell? a = c0[0]? := by
                have := q2 0 hc2
                simpa [Addr.add] using this
              rw [List.getElem?_eq_getElem (by omega)] at hcell
              have hblk : ∃ cur et fr, w.heap[a.block]? = some (.cells cur et fr) ∧ a.spot = none := by
                unfold World.cell? at hcell
                split at hcell
                · rename_i cur et fr hb
                  split at hcell
                  · cases hcell
                  · rename_i hs
                    exact ⟨cur, et, fr, hb, by simpa using hs⟩
                · cases hcell
              obtain ⟨cur, et, fr, hb, hs⟩ := hblk
              have hlt : a.block < w.heap.size := (Array.getElem?_eq_some_iff.1 hb).1
              have ha : a = ⟨a.block, a.off, none⟩ := by cases a; simp_all
              have hadd : ∀ q, a.add q = ⟨a.block, a.off + q, none⟩ := fun q => by
                unfold Addr.add
                split
                · rename_i h0; subst h0; rw [Nat.add_zero]; exact ha
                · rfl
              obtain ⟨H2, u2, N2⟩ := H1.show N1 (blk := ⟨rows.flatten, ke.length, 0, false⟩) rfl hc2 (l := ⟨a.block, a.off, 0⟩) hlt (fun i v hv => by
                obtain ⟨y, hy, k⟩ := row_of_flat hsz v1 hv
                refine ⟨y, ?_, k⟩
                have hq : i < len * ke.length := by
                  have := (List.getElem?_eq_some_iff.1 hy).1
                  omega
                have := g1 i hq
                rw [hadd] at this
                rw [this]
                exact hy)
              have hfl : rows.flatten.length = len * ke.length := by rw [flatten_len hsz, l1]
              refine ⟨_, _, [.slice (some ⟨h1.length, 0, none⟩) len len], p1.trans (List.prefix_append _ _), u1.trans u2, H2, N2, All2.cons (.sl h1.length 0 len len _ ⟨rows.flatten, ke.length, 0, false⟩ (by simp) (Nat.le_refl _) (by simp only [Nat.zero_add, hfl]; exact Nat.le_refl _) (fun _ => ?_) rfl) All2.nil, All2.cons (.sl ke _ rows ?_ (by omega) (fun r hr i k x hk hx => ?_)) All2.nil⟩
              · refine ⟨a, m, rfl, hlc, hcm, .inr ?_, fun h => by cases h⟩
                rw [Map.to_same]
                exact ha
              · refine ⟨hsz, .inr ⟨h1.length, 0, len, ⟨rows.flatten, ke.length, 0, false⟩, by rw [l1], by simp, rfl, by simp [hfl], by omega, ?_⟩⟩
                rw [l1, ← hfl, List.drop_zero]
                exact List.take_length
              · exact ((s1 r hr).2 i k x hk hx).up (List.prefix_append _ _)
        · cases h
      · cases h
    · rename_i fs ht
      split at h
      · rename_i ks' hf
        split at h
        · rename_i hl
          cases h
          obtain ⟨xs, k, _, _, hlen, hxl, hfs⟩ := DataW.trod_struct ht hx
          have := opens_fields (w := w) (cs := cs) fs.toList 0 ks hf (by omega) (fun f hmem kf hkf => by
            obtain ⟨i, hi⟩ := mem_index hmem
            have hi' : fs[i]? = some f := by simpa using hi
            have h1 := hfs i f hi'
            have hil : i < xs.length := by rw [hxl]; exact (Array.getElem?_eq_some_iff.1 hi').1
            rw [List.getElem?_eq_getElem hil] at h1
            exact opens_kinds hsp n f.type kf hkf k _ _ h1)
          rw [List.drop_zero, List.take_of_length_le (by omega)] at this
          exact this
        · cases h
      · cases h
    · cases h

end Go.Proofs.Ytlndlccbecnjoaa.Ab
