/- Texts. -/
import Derived.Test.YtplleficmkfniaaGreatDoorQ07
import Derived.Lib.AppendIntMem
import Derived.Shelf.Vars
set_option linter.unusedSimpArgs false
set_option maxRecDepth 100000
set_option maxHeartbeats 4000000
namespace Go.Json
open Go.Utf
inductive JV where
 | null
 | flag (b : Bool)
 | num (b : Nat)
 | text (s : ByteArray)
 | list (l : List JV)
 | obj (ks : List ByteArray) (l : List JV)
def sb (s : ByteArray) : List Int := s.data.toList.map fun b => (b.toNat : Int)
theorem sb_len (s : ByteArray) : (sb s).length = s.size := by unfold sb; rw [List.length_map, Array.length_toList]; rfl
theorem JV.size_list {l : List JV} {x : JV} (h : x ∈ l) : SizeOf.sizeOf x < SizeOf.sizeOf (JV.list l) := by
 have := List.sizeOf_lt_of_mem h
 simp
 omega
theorem JV.size_obj {ks : List ByteArray} {l : List JV} {x : JV} (h : x ∈ l) : SizeOf.sizeOf x < SizeOf.sizeOf (JV.obj ks l) := by
 have := List.sizeOf_lt_of_mem h
 simp
 omega
theorem JV.ind {P : JV → Prop} (h0 : P .null) (h1 : ∀ b, P (.flag b)) (h2 : ∀ b, P (.num b)) (h3 : ∀ s, P (.text s)) (h4 : ∀ l, (∀ x, x ∈ l → P x) → P (.list l)) (h5 : ∀ ks l, (∀ x, x ∈ l → P x) → P (.obj ks l)) : ∀ t, P t
 | .null => h0
 | .flag b => h1 b
 | .num b => h2 b
 | .text s => h3 s
 | .list l => h4 l fun x _ => JV.ind h0 h1 h2 h3 h4 h5 x
 | .obj ks l => h5 ks l fun x _ => JV.ind h0 h1 h2 h3 h4 h5 x
termination_by t => SizeOf.sizeOf t
decreasing_by
 ·exact JV.size_list (by assumption)
 ·exact JV.size_obj (by assumption)
def sumN : List Nat → Nat
 | [] => 0
 | x :: l => x + sumN l
def maxN : List Nat → Nat
 | [] => 0
 | x :: l => max x (maxN l)
def JV.nodes : JV → Nat
 | .list l => 1 + sumN (l.map fun x => x.nodes)
 | .obj _ l => 1 + sumN (l.map fun x => x.nodes)
 | _ => 1
def JV.bytes : JV → Nat
 | .text s => s.size
 | .list l => sumN (l.map fun x => x.bytes)
 | .obj ks l => sumN (ks.map fun k => k.size) + sumN (l.map fun x => x.bytes)
 | _ => 0
def JV.deep : JV → Nat
 | .list l => maxN (l.map fun x => x.deep) + 1
 | .obj _ l => maxN (l.map fun x => x.deep) + 1
 | _ => 1
def JV.sort : JV → Int
 | .null => 1
 | .flag _ => 2
 | .num _ => 3
 | .text _ => 4
 | .list _ => 5
 | .obj _ _ => 6
def JV.within (v : JV) : Prop := v.nodes ≤ 65536 ∧ v.bytes ≤ 2097152 ∧ v.deep ≤ 512
instance (v : JV) : Decidable v.within := inferInstanceAs (Decidable (_ ∧ _ ∧ _))
def JV.items : JV → List JV
 | .list l => l
 | .obj _ l => l
 | _ => []
def JV.keys : JV → List ByteArray
 | .obj ks _ => ks
 | _ => []
structure StepV where
 sort : Int
 flag : Bool
 bits : Nat
 text : ByteArray
 count : Int
 keys : List ByteArray
def step0 (sort : Int) : StepV := ⟨sort, false, 0, .empty, 0, []⟩
def JV.last : JV → StepV
 | .null => step0 1
 | .flag b => { step0 2 with flag := b }
 | .num b => { step0 3 with bits := b }
 | .text s => { step0 4 with text := s }
 | .list l => { step0 5 with count := l.length }
 | .obj ks _ => { step0 6 with keys := ks }
theorem JV.nodes_eq (v : JV) : v.nodes = 1 + sumN (v.items.map fun x => x.nodes) := by
 cases v <;> simp [JV.nodes, JV.items, sumN]
theorem JV.deep_eq (v : JV) : v.deep = maxN (v.items.map fun x => x.deep) + 1 := by
 cases v <;> simp [JV.deep, JV.items, maxN]
def JV.own : JV → Nat
 | .text s => s.size
 | .obj ks _ => sumN (ks.map fun k => k.size)
 | _ => 0
theorem JV.bytes_eq (v : JV) : v.bytes = v.own + sumN (v.items.map fun x => x.bytes) := by
 cases v <;> simp [JV.bytes, JV.items, sumN, JV.own]
def usedF (s : StepV) : Bool :=
 decide (1 ≤ s.sort) && decide (s.sort ≤ 6) && decide (0 ≤ s.count) && (!s.flag || decide (s.sort = 2)) && (decide (s.bits = 0) || decide (s.sort = 3)) && (decide (s.text.size = 0) || decide (s.sort = 4)) &&
  (decide (s.count = 0) || decide (s.sort = 5)) && (decide (s.keys.length = 0) || decide (s.sort = 6))
def finiteF (b : Nat) : Bool := !decide (b / 4503599627370496 % 2048 = 2047)
def rightS (s : ByteArray) : Bool := rightR (sb s)
def ltS (a b : ByteArray) : Prop := ltU (sb a) (sb b)
instance (a b : ByteArray) : Decidable (ltS a b) := inferInstanceAs (Decidable (lexR _ _ < 0))
def insM (p : ByteArray × JV) : List (ByteArray × JV) → List (ByteArray × JV)
 | [] => [p]
 | q :: l => if ltS p.1 q.1 then p :: q :: l else q :: insM p l
def sortM (l : List (ByteArray × JV)) : List (ByteArray × JV) := l.foldr insM []
def mkObj (ks : List ByteArray) (l : List JV) : JV := .obj ((sortM (ks.zip l)).map (·.1)) ((sortM (ks.zip l)).map (·.2))
def mkV (s : StepV) (l : List JV) : JV :=
 if s.sort = 1 then .null
 else if s.sort = 2 then .flag s.flag
 else if s.sort = 3 then .num (if s.bits = 9223372036854775808 then 0 else s.bits)
 else if s.sort = 4 then .text s.text
 else if s.sort = 5 then .list l
 else mkObj s.keys l
def doF (P : List JV) (s : StepV) : Int ⊕ List JV :=
 if usedF s = false then .inl 2
 else if s.sort = 3 ∧ finiteF s.bits = false then .inl 104
 else if rightS s.text = false ∨ s.keys.all rightS = false then .inl 100
 else if ¬ s.keys.Nodup then .inl 101
 else if P.length < s.count.toNat + s.keys.length then .inl 102
 else if ¬ (mkV s (P.drop (P.length - (s.count.toNat + s.keys.length)))).within then .inl 3
 else .inr (P.take (P.length - (s.count.toNat + s.keys.length)) ++ [mkV s (P.drop (P.length - (s.count.toNat + s.keys.length)))])
def rowF : Nat → List JV → List StepV → (Int × Nat) ⊕ List JV
 | _, P, [] => .inr P
 | i, P, s :: l => match doF P s with
  | .inl e => .inl (e, i)
  | .inr P' => rowF (i + 1) P' l
def buildF (l : List StepV) : (Int × Option Nat) ⊕ JV :=
 if 65536 < l.length then .inl (3, none)
 else match rowF 0 [] l with
 | .inl (e, i) => .inl (e, some i)
 | .inr P => match P with
  | [v] => .inr v
  | _ => .inl (103, some l.length)
end Go.Json
namespace Go.Aff
open Go Go.RowKit
theorem no_outF (A : Option Addr) (n : Nat) : Out (fun _ => False) A n := fun _ _ _ h => h
def InB (D : Nat → Prop) (A : Option Addr) (n : Nat) : Prop := 0 < n → ∀ a, A = some a → D a.block
theorem InB.out {D F : Nat → Prop} {A : Option Addr} {n : Nat} (h : InB D A n) (hF : ∀ i, D i → ¬ F i) : Out F A n := fun hn a e => hF _ (h hn a e)
theorem InB.mono {D C : Nat → Prop} {A : Option Addr} {n : Nat} (h : InB D A n) (hC : ∀ i, D i → C i) : InB C A n := fun hn a e => hC _ (h hn a e)
theorem InB.zero (D : Nat → Prop) (A : Option Addr) : InB D A 0 := fun h => absurd h (by omega)
theorem gen_codeF {P : Program} {c : Code} {a : Act} {Q : Exit → Act → World → Prop} {w : World} (R : World → Prop) (hR : R w) (h : ∀ W, R W → Code.wp P c Q a W) : Code.wp P c Q a w := h w hR
theorem cell_keep {w w' : World} (hk : Keeps (fun _ => False) w w') {p : Addr} {v : Value} (h : w.cell? p = some v) : w'.cell? p = some v := (hk.cell (World.block_lt_of_cell? w _ h) (fun h => h)).trans h
theorem own_built (w : World) (e : TypeId) (n : Nat) (cs : List Value) (hn : cs.length = n) (hm : n ≤ maxLen) : (w.alloc (.cells cs.toArray e)).ownsRow 0 e 1 (.slice (some ⟨w.heap.size, 0, none⟩) n n) n cs :=
 ⟨by omega, .inr ⟨w.heap.size, n, cs.toArray, rfl, Nat.zero_le _, heap_alloc_new w _, Nat.le_refl _, hm, by simp [hn], by simp [← hn]⟩⟩
theorem Mine.built (w wr : World) (e : TypeId) (n : Nat) (cs : List Value) (hk : Keeps (fun _ => False) w wr) (hn : cs.length = n) (hm : n ≤ maxLen) : Mine w (wr.alloc (.cells cs.toArray e)) e (some ⟨wr.heap.size, 0, none⟩) n n cs :=
 ⟨own_built wr e n cs hn hm, hk.alloc _, fun g h => by have e1 : some wr.heap.size = some g := h; injection e1 with e1; have := hk.size; omega⟩
theorem Mine.rd {w wr : World} {e : TypeId} {A : Option Addr} {m c : Nat} {xs : List Value} (h : Mine w wr e A m c xs) : Rd wr A m xs := Rd.of_own h.1
end Go.Aff
namespace Go.Proofs.YtplleficmkfniaaGreatDoor
open Go Go.RowKit Go.Aff Go.Json
def errE (n : Int) : Value := .iface 85 (.int .i64 n)
def sizeV (j : JV) : List Value := [.int .i64 j.nodes, .int .i64 j.bytes, .int .i64 j.deep]
inductive JAt (D : Nat → Prop) (w : World) : Value → JV → Prop
 | null : JAt D w (.iface 217 (.agg #[])) .null
 | flag (b : Bool) : JAt D w (.iface 218 (.bool b)) (.flag b)
 | num (b : Nat) (hf : finiteF b = true) (hz : b ≠ 9223372036854775808) (hb : b < 18446744073709551616) : JAt D w (.iface 223 (.float .f64 b)) (.num b)
 | text (s : ByteArray) : JAt D w (.iface 224 (.string s)) (.text s)
 | list {b : Nat} {A : Option Addr} {c : Nat} {vs : List Value} {l : List JV} (hD : D b) (hb : Blk w b 231 (sizeV (.list l) ++ [.slice A l.length c])) (hr : Rd w A l.length vs) (ho : InB D A l.length)
   (hl : ∀ (i : Nat) (v : Value) (j : JV), vs[i]? = some v → l[i]? = some j → JAt D w v j) : JAt D w (.iface 186 (.pointer (some ⟨b, 0, none⟩))) (.list l)
 | obj {b : Nat} {A B : Option Addr} {c d : Nat} {vs : List Value} {ks : List ByteArray} {l : List JV} (hD : D b) (hb : Blk w b 282 (sizeV (.obj ks l) ++ [.slice B ks.length d, .slice A l.length c]))
   (hk : Rd w B ks.length (ks.map .string)) (hok : InB D B ks.length) (hr : Rd w A l.length vs) (ho : InB D A l.length)
   (hl : ∀ (i : Nat) (v : Value) (j : JV), vs[i]? = some v → l[i]? = some j → JAt D w v j) : JAt D w (.iface 187 (.pointer (some ⟨b, 0, none⟩))) (.obj ks l)
theorem JAt.keep {D F : Nat → Prop} {w w' : World} {v : Value} {j : JV} (h : JAt D w v j) (hk : Keeps F w w') (hF : ∀ i, D i → ¬ F i) : JAt D w' v j := by
 induction h with
 | null => exact .null
 | flag b => exact .flag b
 | num b h1 h2 h3 => exact .num b h1 h2 h3
 | text s => exact .text s
 | list hD hb hr ho _ ih => exact .list hD (hk.blk hb (hF _ hD)) (hr.keep hk (ho.out hF)) ho ih
 | obj hD hb hkk hok hr ho _ ih => exact .obj hD (hk.blk hb (hF _ hD)) (hkk.keep hk (hok.out hF)) hok (hr.keep hk (ho.out hF)) ho ih
theorem Rd.inB {w : World} {A : Option Addr} {n : Nat} {xs : List Value} {D : Nat → Prop} (h : Rd w A n xs) (hD : InB D A n) {C : Nat → Prop} (hC : ∀ i, D i → i < w.heap.size → C i) : InB C A n := fun hn a e => by
 obtain ⟨g, o, e2, hl⟩ := h.lt hn
 rw [e] at e2
 injection e2 with e2
 subst e2
 exact hC _ (hD hn _ e) hl
theorem JAt.mono {D C : Nat → Prop} {w : World} {v : Value} {j : JV} (h : JAt D w v j) (hC : ∀ i, D i → i < w.heap.size → C i) : JAt C w v j := by
 induction h with
 | null => exact .null
 | flag b => exact .flag b
 | num b h1 h2 h3 => exact .num b h1 h2 h3
 | text s => exact .text s
 | list hD hb hr ho _ ih => exact .list (hC _ hD hb.lt) hb hr (Rd.inB hr ho hC) ih
 | obj hD hb hkk hok hr ho _ ih => exact .obj (hC _ hD hb.lt) hb hkk (Rd.inB hkk hok hC) hr (Rd.inB hr ho hC) ih
theorem JAt.stay {D : Nat → Prop} {w w' : World} {v : Value} {j : JV} (h : JAt D w v j) (hk : Keeps (fun _ => False) w w') : JAt D w' v j := h.keep hk (fun _ _ h => h)
theorem JAt.iface {D : Nat → Prop} {w : World} {v : Value} {j : JV} (h : JAt D w v j) : ∃ T x, v = .iface T x := by cases h <;> exact ⟨_, _, rfl⟩
theorem JAt.one {D : Nat → Prop} {w : World} {v : Value} {j : JV} (h : JAt D w v j) : v.oneCell' = true := by cases h <;> rfl
def TreeAt (D : Nat → Prop) (w : World) (q : Nat) (v : Value) (j : JV) : Prop := D q ∧ Blk w q 135 [v] ∧ JAt D w v j
theorem TreeAt.keep {D F : Nat → Prop} {w w' : World} {q : Nat} {v : Value} {j : JV} (h : TreeAt D w q v j) (hk : Keeps F w w') (hF : ∀ i, D i → ¬ F i) : TreeAt D w' q v j := ⟨h.1, hk.blk h.2.1 (hF _ h.1), h.2.2.keep hk hF⟩
theorem TreeAt.stay {D : Nat → Prop} {w w' : World} {q : Nat} {v : Value} {j : JV} (h : TreeAt D w q v j) (hk : Keeps (fun _ => False) w w') : TreeAt D w' q v j := h.keep hk (fun _ _ h => h)
theorem TreeAt.mono {D C : Nat → Prop} {w : World} {q : Nat} {v : Value} {j : JV} (h : TreeAt D w q v j) (hC : ∀ i, D i → i < w.heap.size → C i) : TreeAt C w q v j := ⟨hC _ h.1 h.2.1.lt, h.2.1, h.2.2.mono hC⟩
end Go.Proofs.YtplleficmkfniaaGreatDoor
namespace Go.Proofs.YtplleficmkfniaaGreatDoor
open Go Go.RowKit Go.Aff
def MaxAt (w : World) : Prop := ∃ m : Int, w.cell? ⟨2, 0, none⟩ = some (.int .i64 m)
theorem MaxAt.stay {w w' : World} (h : MaxAt w) (k : Keeps (fun _ => False) w w') : MaxAt w' := h.imp fun _ h => cell_keep k h
theorem MaxAt.keep {F : Nat → Prop} {w w' : World} (h : MaxAt w) (k : Keeps F w w') (hg : ¬ F 2) : MaxAt w' := by
 obtain ⟨m, hm⟩ := h
 exact ⟨m, (k.cell (World.block_lt_of_cell? w _ hm) hg).trans hm⟩
end Go.Proofs.YtplleficmkfniaaGreatDoor
namespace Go.Proofs.YtplleficmkfniaaGreatDoor
open Go Go.RowKit Go.Aff Go.Sha
def GT : Nat := max (max (max 3 1) (max 2 4)) (max 7 8) + 1
theorem gt_sha : max 3 1 + 1 ≤ GT := by decide
theorem gt_max : 2 < GT := by decide
theorem gt_pow : 4 < GT := by decide
theorem gt_syn : 7 < GT := by decide
theorem gt_rng : 8 < GT := by decide
theorem gn_pow : Tryz.prog.globalNamed "internal/strconv.uint64pow10" = some 4 := by kernel_rfl
theorem gn_syn : Tryz.prog.globalNamed "strconv.ErrSyntax" = some 7 := by kernel_rfl
theorem gn_rng : Tryz.prog.globalNamed "strconv.ErrRange" = some 8 := by kernel_rfl
theorem var_keep {F : Nat → Prop} {w w' : World} {n : String} {g : Nat} {cs : Array Value} (hn : Tryz.prog.globalNamed n = some g) (h : w.var? Tryz.prog n = some cs) (k : Keeps F w w') (hg : ¬ F g) : w'.var? Tryz.prog n = some cs := by
 unfold World.var? at h ⊢
 rw [hn] at h ⊢
 simp only [Option.bind_some] at h ⊢
 cases hb : w.heap[g]? with
 | none => rw [hb] at h; cases h
 | some o => rw [k.block g (Array.getElem?_eq_some_iff.1 hb).1 hg]; exact h
structure GW (w : World) : Prop where
 sha : Glob w
 pow : Lib.TabIs Tryz.prog w "internal/strconv.uint64pow10" .u64 Lib.pow10Tab
 max : MaxAt w
 syn : ∃ tp p, w.var? Tryz.prog "strconv.ErrSyntax" = some #[.iface tp p]
 rng : ∃ tp p, w.var? Tryz.prog "strconv.ErrRange" = some #[.iface tp p]
 top : GT ≤ w.heap.size
theorem GW.keep {F : Nat → Prop} {w w' : World} (h : GW w) (k : Keeps F w w') (hF : ∀ i, F i → GT ≤ i) : GW w' := by
 have hn : ∀ g, g < GT → ¬ F g := fun g hg hf => by have := hF g hf; omega
 refine ⟨h.sha.keep k fun i hi => Nat.le_trans gt_sha (hF i hi), var_keep gn_pow h.pow k (hn _ gt_pow), h.max.keep k (hn _ gt_max), ?_, ?_, Nat.le_trans h.top k.size⟩
 ·obtain ⟨tp, p, e⟩ := h.syn
  exact ⟨tp, p, var_keep gn_syn e k (hn _ gt_syn)⟩
 ·obtain ⟨tp, p, e⟩ := h.rng
  exact ⟨tp, p, var_keep gn_rng e k (hn _ gt_rng)⟩
theorem GW.stay {w w' : World} (h : GW w) (k : Keeps (fun _ => False) w w') : GW w' := h.keep k fun _ h => h.elim
theorem GW.tab {w : World} (h : GW w) : Lib.TabBelow Tryz.prog w.heap.size w "internal/strconv.uint64pow10" .u64 Lib.pow10Tab := Lib.tabBelow_of_tabIs h.pow
end Go.Proofs.YtplleficmkfniaaGreatDoor
namespace Go.Proofs.YtplleficmkfniaaGreatDoor
open Go Go.RowKit Go.Sha Go.Aff
theorem gPow : Tryz.prog.globalNamed "internal/strconv.uint64pow10" = some 4 := by kernel_rfl
theorem gPowT : (Tryz.prog.globals[4]?).map (·.type) = some 383 := by kernel_rfl
theorem cellsU64 : Tryz.prog.cellsOf 76 = 1 := by kernel_rfl
theorem cells20U64 : Tryz.prog.cellsOf 383 = 20 := by kernel_rfl
theorem gSyn : Tryz.prog.globalNamed "strconv.ErrSyntax" = some 7 := by kernel_rfl
theorem gSynT : (Tryz.prog.globals[7]?).map (·.type) = some 32 := by kernel_rfl
theorem gRng : Tryz.prog.globalNamed "strconv.ErrRange" = some 8 := by kernel_rfl
theorem gRngT : (Tryz.prog.globals[8]?).map (·.type) = some 32 := by kernel_rfl
theorem cellsStr : Tryz.prog.cellsOf 9 = 1 := by kernel_rfl
theorem cellsEs : Tryz.prog.cellsOf 415 = 1 := by kernel_rfl
theorem es_star : "*" ++ "errors.errorString" = "*errors.errorString" := by decide
theorem es_row (u : TypeId) (h : Tryz.prog.typeName? 3 u = some "*errors.errorString") : u = 413 :=
 typeName_ptr_named (nm := "errors.errorString") (by rw [es_star]; kernel_rfl) (by kernel_rfl) (by decide) u (by rw [es_star]; exact h)
theorem max_of_shaped {W : World} (h : W.ShapedOpen Tryz.prog) : MaxAt W :=
 cell_of_shapedOpen_int (P := Tryz.prog) (g := 2) (t := 3) (zero := #[.int .i64 0]) h (of_decide_eq_true (by kernel_rfl)) (by kernel_rfl) rfl (by kernel_rfl) (by kernel_rfl) Tryz.underlying3
theorem lt_of_var {w : World} {n : String} {g : Nat} {cs : Array Value} (hn : Tryz.prog.globalNamed n = some g) (h : w.var? Tryz.prog n = some cs) : g < w.heap.size := by
 unfold World.var? at h
 rw [hn] at h
 simp only [Option.bind_some] at h
 cases hb : w.heap[g]? with
 | none => rw [hb] at h; cases h
 | some o => exact (Array.getElem?_eq_some_iff.1 hb).1
theorem gw_of_laid {W : World} (h : laidMetH Tryz.prog [("math/bits.deBruijn32tab", Rows.laid_math_bits_deBruijn32tab), ("math/bits.deBruijn64tab", Rows.laid_math_bits_deBruijn64tab), ("internal/strconv.uint64pow10", Rows.laid_internal_strconv_uint64pow10), ("unicode/utf8.acceptRanges", Rows.laid_unicode_utf8_acceptRanges), ("strconv.ErrRange", Rows.laid_strconv_ErrRange), ("strconv.ErrSyntax", Rows.laid_strconv_ErrSyntax), ("affidavit/sha.first", Rows.laid_affidavit_sha_first), ("affidavit/sha.constants", Rows.laid_affidavit_sha_constants), ("unicode/utf8.first", Rows.laid_unicode_utf8_first)] W) (hm : MaxAt W) : GW W := by
 have h1 : laidMet Tryz.prog [("math/bits.deBruijn32tab", Rows.laid_math_bits_deBruijn32tab), ("math/bits.deBruijn64tab", Rows.laid_math_bits_deBruijn64tab), ("internal/strconv.uint64pow10", Lib.tabData .u64 Lib.pow10Tab), ("unicode/utf8.acceptRanges", Rows.laid_unicode_utf8_acceptRanges), ("strconv.ErrRange", Rows.laid_strconv_ErrRange), ("strconv.ErrSyntax", Rows.laid_strconv_ErrSyntax), ("affidavit/sha.first", Lib.tabData .u32 firstL), ("affidavit/sha.constants", Lib.tabData .u32 K), ("unicode/utf8.first", Rows.laid_unicode_utf8_first)] W := h
 have h3 := laidMet.tail (laidMet.tail h1)
 have a := Lib.tabIs_of_head gPow gPowT Tryz.underlying383 Tryz.underlying76 cellsU64 cells20U64 h3
 have h5 := laidMet.tail (laidMet.tail h3)
 obtain ⟨ar, sr, hr, _⟩ := laid_sentinel h5 gRng gRngT Tryz.underlying32 es_row Tryz.underlying413 Tryz.underlying415 rfl rfl Tryz.underlying9 cellsEs cellsStr
 have h6 := laidMet.tail h5
 obtain ⟨aq, sq, hs, _⟩ := laid_sentinel h6 gSyn gSynT Tryz.underlying32 es_row Tryz.underlying413 Tryz.underlying415 rfl rfl Tryz.underlying9 cellsEs cellsStr
 have h7 := laidMet.tail h6
 have b := Lib.tabIs_of_head gFirst gFirstT Tryz.underlying254 Tryz.underlying253 cellsU32 cells8U32 h7
 have c := Lib.tabIs_of_head gConst gConstT Tryz.underlying346 Tryz.underlying253 cellsU32 cells64U32 (laidMet.tail h7)
 refine ⟨⟨fun t ht => c.cell gConst t ht, fun i hi => b.cell gFirst i hi⟩, a, hm, ⟨_, _, hs⟩, ⟨_, _, hr⟩, ?_⟩
 have e1 := lt_of_var gConst c
 have e2 := lt_of_var gFirst b
 have e3 := lt_of_var gPow a
 have e4 := lt_of_var gSyn hs
 have e5 := lt_of_var gRng hr
 have e6 : 2 < W.heap.size := by
  obtain ⟨m, h⟩ := hm
  exact World.block_lt_of_cell? W _ h
 unfold GT
 omega
mutual
def datL : DataW Unit → List Value
 | .agg l => datLs l
 | .lit (.int k z) => [Value.int k z]
 | _ => [undef]
def datLs : List (DataW Unit) → List Value
 | [] => []
 | d :: l => datL d ++ datLs l
end
abbrev rngS : ByteArray := ⟨#[118, 97, 108, 117, 101, 32, 111, 117, 116, 32, 111, 102, 32, 114, 97, 110, 103, 101]⟩
abbrev synS : ByteArray := ⟨#[105, 110, 118, 97, 108, 105, 100, 32, 115, 121, 110, 116, 97, 120]⟩
noncomputable def lowD : Nat := (World.holding Tryz.prog default ⟨#[], #[], []⟩).heap.size
noncomputable def laidWorldD (os : Os) : World :=
 let w := World.holding Tryz.prog os ⟨#[.cells #[.string rngS] 415, .cells #[.string synS] 415], #[], []⟩
 { w with heap := ((((((((w.heap.modify 1 (fillCells (vi .u32 firstL).toArray)).modify 3 (fillCells (vi .u32 K).toArray)).modify 9 (fillCells (datL Rows.laid_math_bits_deBruijn32tab).toArray)).modify 10 (fillCells (datL Rows.laid_math_bits_deBruijn64tab).toArray)).modify 4 (fillCells (datL Rows.laid_internal_strconv_uint64pow10).toArray)).modify 5 (fillCells (datL Rows.laid_unicode_utf8_first).toArray)).modify 6 (fillCells (datL Rows.laid_unicode_utf8_acceptRanges).toArray)).modify 8 (fillCells #[.iface 413 (.pointer (some ⟨lowD, 0, none⟩))])).modify 7 (fillCells #[.iface 413 (.pointer (some ⟨lowD + 1, 0, none⟩))]) }
end Go.Proofs.YtplleficmkfniaaGreatDoor
namespace Go.Aff
open Go Go.RowKit
def RdS (s : Nat) (w : World) (A : Option Addr) (k : Nat) (xs : List Value) : Prop := xs.length = k * s ∧ (0 < k → ∃ g o, A = some ⟨g, o, none⟩ ∧ ∀ j, j < k * s → w.cell? ⟨g, o + j, none⟩ = xs[j]?)
def MineS (s : Nat) (w wr : World) (e : TypeId) (A : Option Addr) (m c : Nat) (xs : List Value) : Prop :=
 wr.ownsRow 0 e s (.slice A m c) m xs ∧ Keeps (fun _ => False) w wr ∧ ∀ g, (Value.slice A m c).ownBlock = some g → w.heap.size ≤ g
theorem MineS.nil (s : Nat) (w : World) (e : TypeId) : MineS s w w e none 0 0 [] := ⟨World.ownsRow_nil w 0 e s, Keeps.refl _ w, fun g h => by simp [Value.ownBlock] at h⟩
theorem MineS.keep {s : Nat} {w wr w' : World} {e : TypeId} {A : Option Addr} {m c : Nat} {xs : List Value} (h : MineS s w wr e A m c xs) (hk : Keeps (fun _ => False) wr w') : MineS s w w' e A m c xs :=
 ⟨hk.own h.1 (fun _ _ h => h), h.2.1.trans hk (fun _ _ h => h), h.2.2⟩
theorem MineS.alloc {s : Nat} {w wr : World} {e : TypeId} {A : Option Addr} {m c : Nat} {xs : List Value} (h : MineS s w wr e A m c xs) (o : Obj) : MineS s w (wr.alloc o) e A m c xs := h.keep ((Keeps.refl _ wr).alloc o)
theorem MineS.len {s : Nat} {w wr : World} {e : TypeId} {A : Option Addr} {m c : Nat} {xs : List Value} (h : MineS s w wr e A m c xs) : xs.length = m * s := h.1.1
structure Two (w wr : World) (e : TypeId) (s : Nat) (A : Option Addr) (n c : Nat) (xs : List Value) (f : TypeId) (t : Nat) (B : Option Addr) (m d : Nat) (ys : List Value) : Prop where
 a : MineS s w wr e A n c xs
 b : MineS t w wr f B m d ys
 ap : ∀ g, (Value.slice A n c).ownBlock = some g → (Value.slice B m d).ownBlock ≠ some g
section
variable {w0 w wr w' : World} {e f : TypeId} {s t : Nat} {A B : Option Addr} {n c m d : Nat} {xs ys : List Value}
theorem Two.nil (w : World) (e f : TypeId) (s t : Nat) : Two w w e s none 0 0 [] f t none 0 0 [] := ⟨MineS.nil s w e, MineS.nil t w f, fun g h => by simp [Value.ownBlock] at h⟩
theorem Two.keep (h : Two w wr e s A n c xs f t B m d ys) (hk : Keeps (fun _ => False) wr w') : Two w w' e s A n c xs f t B m d ys := ⟨h.a.keep hk, h.b.keep hk, h.ap⟩
theorem Two.alloc (h : Two w wr e s A n c xs f t B m d ys) (o : Obj) : Two w (wr.alloc o) e s A n c xs f t B m d ys := h.keep ((Keeps.refl _ wr).alloc o)
theorem MineS.own_lt (h : MineS s w wr e A n c xs) {g : Nat} (hg : (Value.slice A n c).ownBlock = some g) : g < wr.heap.size := (h.1.lt g hg).2
theorem MineS.grown {A' : Option Addr} {k c' : Nat} {zs : List Value} (h : MineS s w wr e A n c xs) (ho : w'.ownsRow 0 e s (.slice A' k c') k zs) (hg : wr.grownBy w' (Value.slice A n c).ownBlock)
  (hb : (Value.slice A' k c').ownBlock = (Value.slice A n c).ownBlock ∨ (Value.slice A' k c').ownBlock = some wr.heap.size) : MineS s w w' e A' k c' zs := by
 refine ⟨ho, h.2.1.grown hg (fun g e => .inr (h.2.2 g e)), fun g hg' => ?_⟩
 rcases hb with h1 | h1
 ·exact h.2.2 g (h1.symm.trans hg')
 ·rw [h1] at hg'
  injection hg' with e1
  have := h.2.1.size
  omega
theorem Two.grown {A' : Option Addr} {k c' : Nat} {zs : List Value} (h : Two w wr e s A n c xs f t B m d ys) (ho : w'.ownsRow 0 e s (.slice A' k c') k zs) (hg : wr.grownBy w' (Value.slice A n c).ownBlock)
  (hb : (Value.slice A' k c').ownBlock = (Value.slice A n c).ownBlock ∨ (Value.slice A' k c').ownBlock = some wr.heap.size) : Two w w' e s A' k c' zs f t B m d ys := by
 refine ⟨h.a.grown ho hg hb, ⟨(Keeps.of_grown hg).own h.b.1 (fun i hi he => h.ap i he hi), h.a.2.1.grown hg (fun g e => .inr (h.a.2.2 g e)), h.b.2.2⟩, fun g hg' => ?_⟩
 rcases hb with h1 | h1
 ·exact h.ap g (h1.symm.trans hg')
 ·rw [h1] at hg'
  injection hg' with e1
  intro hB
  have := h.b.own_lt hB
  omega
theorem RdS.keep {F : Nat → Prop} (h : RdS s w A n xs) (hk : Keeps F w w') (hF : 0 < n → ∀ a, A = some a → ¬ F a.block) : RdS s w' A n xs := by
 refine ⟨h.1, fun hn => ?_⟩
 obtain ⟨g, o, e1, hc⟩ := h.2 hn
 refine ⟨g, o, e1, fun j hj => ?_⟩
 have h1 := hc j hj
 rw [List.getElem?_eq_getElem (by rw [h.1]; exact hj)] at h1 ⊢
 exact (hk.cell (World.block_lt_of_cell? w _ h1) (fun hb => hF hn ⟨g, o, none⟩ e1 hb)).trans h1
theorem RdS.stay (h : RdS s w A n xs) (hk : Keeps (fun _ => False) w w') : RdS s w' A n xs := h.keep hk (fun _ _ _ h => h)
theorem RdS.blk {p : Nat} {ty : TypeId} {cs : List Value} (h : Blk w p ty cs) (hl : cs.length = n * s) : RdS s w (some ⟨p, 0, none⟩) n cs := ⟨hl, fun _ => ⟨p, 0, rfl, fun j hj => by rw [Nat.zero_add]; exact h.cell j⟩⟩
end
section
variable {P : Program}
theorem wpList_append_S (w : World) {ops : Array Oper} {rest : List Oper} {o : Oper} {a : Act} {Q : Exit → Act → World → Prop} (hgd : o.guard = none) (s x : Operand) (t : TypeId)
  (ho : o.op = .call { callee := .builtin .append, args := #[s, x], argTypes := #[t, t] })
  (e : TypeId) (z : Value) (sz bytes : Nat) (ht : P.underlying t = some (.slice e)) (hinfo : (P.info? e).map (fun i => (i.zero, i.size, i.bytes)) = some (some z, sz, bytes)) (hzs : z.cells.size = sz) (hpos : 0 < sz)
  (A0 : Option Addr) (n c0 : Nat) (xs : List Value) (hs : a.eval s = .slice A0 n c0) (hown : w.ownsRow 0 e sz (.slice A0 n c0) n xs)
  (A : Option Addr) (m c : Nat) (news : List Value) (hx : a.eval x = .slice A m c) (hr : RdS sz w A m news) (h1 : ∀ u ∈ news, u.oneCell' = true)
  (h63 : n + m ≤ maxLen) (hbytes : (n + m) * bytes ≤ 140737488355328)
  (h : ∀ A' c' w', w'.ownsRow 0 e sz (.slice A' (n + m) c') (n + m) (xs ++ news) → w.grownBy w' (Value.slice A0 n c0).ownBlock → ((Value.slice A' (n + m) c').ownBlock = (Value.slice A0 n c0).ownBlock ∨ (Value.slice A' (n + m) c').ownBlock = some w.heap.size) → wpList P ops Q rest (a.put o.dst (.slice A' (n + m) c')) w') :
  wpList P ops Q (o :: rest) a w := by
 obtain ⟨i, hi, hzi⟩ := Option.map_eq_some_iff.1 hinfo
 simp only [Prod.mk.injEq] at hzi
 obtain ⟨hz, hsz, hby⟩ := hzi
 rcases A with _ | ad
 ·have hm : m = 0 := by
   rcases Nat.eq_zero_or_pos m with h0 | h0
   ·exact h0
   ·obtain ⟨g, o, e1, _⟩ := hr.2 h0
    cases e1
  subst hm
  have hn : news = [] := List.eq_nil_of_length_eq_zero (by rw [hr.1]; simp)
  subst hn
  refine wpList_plain hgd fun K hK => ?_
  have hrun : (Builtin.append_ #[t, t] o.type #[.slice A0 n c0, .slice none 0 c]).run P w = .ok (.slice A0 n c0) w := by
   rcases hown.2 with ⟨hv, hn0⟩ | ⟨g, cap, cur, hv, _, _, hnc, _⟩
   ·injection hv with e1 e2 e3
    subst e1 e2 e3
    simp [Builtin.append_, run_underlying ht, sizeOf, typeInfo, hi, Builtin.lenOf, Builtin.firstCells]
   ·injection hv with e1 e2 e3
    subst e1 e3
    simp [Builtin.append_, run_underlying ht, sizeOf, typeInfo, hi, Builtin.lenOf, Builtin.firstCells, hnc, storeCells]
  unfold Oper.wp execOp
  simp only [ho, resolve, invoke, builtin, Sem.run_bind, Sem.run_pure, Result.andThen_ok, List.map_toArray, List.map_cons, List.map_nil, hs, hx, hrun]
  have := h A0 c0 w (by simpa using hown) (World.grownBy.refl w _) (.inl rfl)
  exact hK _ _ this
 ·have hcells : ∀ j u, news[j]? = some u → w.cell? (ad.add j) = some u := by
   intro j u hu
   have hj : j < news.length := (List.getElem?_eq_some_iff.1 hu).1
   have hm0 : 0 < m := by
    rcases Nat.eq_zero_or_pos m with h0 | h0
    ·subst h0; rw [hr.1] at hj; simp at hj
    ·exact h0
   obtain ⟨g, o, e1, hc⟩ := hr.2 hm0
   injection e1 with e1
   subst e1
   have hj2 : j < m * sz := by rw [← hr.1]; exact hj
   have := hc j hj2
   rw [hu] at this
   rw [add_at]
   exact this
  refine wpList_append_own_at w hgd s x t ho 0 e i z sz bytes ht hi hz hsz hby hzs hpos (.slice A0 n c0) n xs hs hown ad m c news hx hr.1 hcells h1 h63 hbytes (by omega) fun v' w' h2 h3 _ h5 => ?_
  obtain ⟨A', c', rfl⟩ := own_shape h2
  exact h A' c' w' h2 h3 h5
theorem wpList_append_mine (w0 w : World) {ops : Array Oper} {rest : List Oper} {o : Oper} {a : Act} {Q : Exit → Act → World → Prop} (hgd : o.guard = none) (s x : Operand) (t : TypeId)
  (ho : o.op = .call { callee := .builtin .append, args := #[s, x], argTypes := #[t, t] })
  (e : TypeId) (z : Value) (sz bytes : Nat) (ht : P.underlying t = some (.slice e)) (hinfo : (P.info? e).map (fun i => (i.zero, i.size, i.bytes)) = some (some z, sz, bytes)) (hzs : z.cells.size = sz) (hpos : 0 < sz)
  {A0 : Option Addr} {n c0 : Nat} {xs : List Value} (hs : a.eval s = .slice A0 n c0) (hT : MineS sz w0 w e A0 n c0 xs)
  (A : Option Addr) (m c : Nat) (news : List Value) (hx : a.eval x = .slice A m c) (hr : RdS sz w A m news) (h1 : ∀ u ∈ news, u.oneCell' = true)
  (h63 : n + m ≤ maxLen) (hbytes : (n + m) * bytes ≤ 140737488355328)
  (h : ∀ A' c' w', MineS sz w0 w' e A' (n + m) c' (xs ++ news) → wpList P ops Q rest (a.put o.dst (.slice A' (n + m) c')) w') :
  wpList P ops Q (o :: rest) a w :=
 wpList_append_S w hgd s x t ho e z sz bytes ht hinfo hzs hpos A0 n c0 xs hs hT.1 A m c news hx hr h1 h63 hbytes fun A' c' w' k1 k2 k3 => h A' c' w' (hT.grown k1 k2 k3)
end
end Go.Aff
