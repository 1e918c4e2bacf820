/- What the listed package variables hold, cell by cell: written by gen_glob.py. -/
import Derived.WalkKit
import Derived.Lib.DecodeN
import Derived.CallsIn
import Derived.ControlIn
import Derived.OrdersIn
import Derived.TacticsIn
import Derived.LoopIn
import Derived.RangeFuncSeq
import Derived.Laws.StructEq
import Derived.ChangeKeysEq
import Derived.LaidEqlPtr
import Derived.Lib.Builder
import Derived.Laws.Pointers
import Derived.WideLaws
import Derived.Lib.IfaceNeq
import Derived.Great.BuildSlice
set_option linter.unusedVariables false
set_option linter.unusedSimpArgs false
set_option maxRecDepth 512
set_option maxHeartbeats 200000
namespace Go.Proofs.YtdkpdjfimckdgaaGreatDoor
section
theorem xq0:type_of% @Nat.le_refl:=@Nat.le_refl
theorem xq1:type_of% @List.getElem?_eq_getElem:=@List.getElem?_eq_getElem
theorem xq2:type_of% @Array.getElem?_eq_getElem:=@Array.getElem?_eq_getElem
theorem xq3:type_of% @Bool.and_eq_true:=@Bool.and_eq_true
theorem xq4:type_of% @List.getElem?_append_left:=@List.getElem?_append_left
theorem xq5:type_of% @List.getElem?_append_right:=@List.getElem?_append_right
theorem xq6:type_of% @List.all_eq_true:=@List.all_eq_true
theorem xq7:type_of% @List.getElem?_map:=@List.getElem?_map
theorem xq8:type_of% @Nat.lt_or_ge:=@Nat.lt_or_ge
theorem xq9:type_of% @List.mem_map:=@List.mem_map
theorem an8:type_of% @List.mem_cons:=@List.mem_cons
theorem an7:type_of% @List.take_succ_cons:=@List.take_succ_cons
theorem an6:type_of% @List.take_zero:=@List.take_zero
theorem ao5:type_of% @List.drop_succ_cons:=@List.drop_succ_cons
theorem ao4:type_of% @Nat.sub_self:=@Nat.sub_self
theorem ap3:type_of% @Array.getD_eq_getD_getElem?:=@Array.getD_eq_getD_getElem?
theorem ar7:type_of% @List.mem_iff_getElem?:=@List.mem_iff_getElem?
theorem ar6:type_of% @List.getElem?_set_ne:=@List.getElem?_set_ne
theorem au2:type_of% @Nat.add_sub_cancel_left:=@Nat.add_sub_cancel_left
theorem aw1:type_of% @List.getElem?_eq_none:=@List.getElem?_eq_none
theorem az0:type_of% @List.set_append_right:=@List.set_append_right
theorem aA1:type_of% @Nat.add_mul:=@Nat.add_mul
theorem aA0:type_of% @List.getElem?_set_self:=@List.getElem?_set_self
theorem az9:type_of% @Bool.false_and:=@Bool.false_and
theorem aB2:type_of% @Nat.lt_of_lt_of_le:=@Nat.lt_of_lt_of_le
theorem aB1:type_of% @List.getElem?_take:=@List.getElem?_take
theorem aB0:type_of% @List.eq_nil_of_length_eq_zero:=@List.eq_nil_of_length_eq_zero
theorem aC0:type_of% @Nat.zero_le:=@Nat.zero_le
theorem aE0:type_of% @Nat.le_trans:=@Nat.le_trans
theorem aD9:type_of% @List.mem_cons_self:=@List.mem_cons_self
theorem aD8:type_of% @Nat.add_zero:=@Nat.add_zero
theorem aD7:type_of% @List.length_pos_iff:=@List.length_pos_iff
theorem aF0:type_of% @List.take_of_length_le:=@List.take_of_length_le
theorem aG2:type_of% @Nat.mul_le_mul_right:=@Nat.mul_le_mul_right
theorem aJ4:type_of% @List.mem_cons_of_mem:=@List.mem_cons_of_mem
theorem aJ3:type_of% @List.map_append:=@List.map_append
theorem aJ2:type_of% @List.not_mem_nil:=@List.not_mem_nil
theorem aJ1:type_of% @List.suffix_refl:=@List.suffix_refl
theorem aL3:type_of% @List.drop_eq_getElem_cons:=@List.drop_eq_getElem_cons
theorem aL2:type_of% @List.getElem?_drop:=@List.getElem?_drop
theorem aL1:type_of% @List.take_length:=@List.take_length
theorem aL0:type_of% @Array.getElem?_toList:=@Array.getElem?_toList
theorem aK9:type_of% @List.size_toArray:=@List.size_toArray
theorem aO5:type_of% @Nat.sub_zero:=@Nat.sub_zero
theorem aO4:type_of% @List.getElem?_range:=@List.getElem?_range
theorem aT5:type_of% @Array.mem_toList_iff:=@Array.mem_toList_iff
theorem aQ7:type_of% @Nat.le_of_eq:=@Nat.le_of_eq
theorem aQ6:type_of% @List.take_left:=@List.take_left
theorem aT4:type_of% @List.map_map:=@List.map_map
theorem aT3:type_of% @List.getElem_mem:=@List.getElem_mem
theorem aT2:type_of% @List.mem_append:=@List.mem_append
theorem aT1:type_of% @List.mem_singleton:=@List.mem_singleton
theorem aW9:type_of% @List.ext_getElem?:=@List.ext_getElem?
theorem bc6:type_of% @Nat.lt_irrefl:=@Nat.lt_irrefl
theorem aW8:type_of% @List.contains_iff_mem:=@List.contains_iff_mem
theorem bc5:type_of% @List.drop_eq_nil_of_le:=@List.drop_eq_nil_of_le
theorem bc4:type_of% @List.mem_of_mem_drop:=@List.mem_of_mem_drop
theorem bb9:type_of% @Nat.eq_zero_or_pos:=@Nat.eq_zero_or_pos
theorem bb8:type_of% @List.mem_flatMap:=@List.mem_flatMap
theorem bg1:type_of% @List.mem_range:=@List.mem_range
theorem bg0:type_of% @List.mem_of_mem_take:=@List.mem_of_mem_take
theorem bf9:type_of% @Int.le_refl:=@Int.le_refl
theorem bf8:type_of% @List.set_append_left:=@List.set_append_left
theorem bf7:type_of% @Bool.eq_iff_iff:=@Bool.eq_iff_iff
theorem bo4:type_of% @Array.getElem?_eq_none:=@Array.getElem?_eq_none
theorem bo3:type_of% @Nat.add_assoc:=@Nat.add_assoc
theorem bo2:type_of% @List.getElem?_concat_length:=@List.getElem?_concat_length
theorem bo1:type_of% @UInt8.toNat_inj:=@UInt8.toNat_inj
theorem bo0:type_of% @Nat.pow_le_pow_right:=@Nat.pow_le_pow_right
theorem bn9:type_of% @List.take_succ_eq_append_getElem:=@List.take_succ_eq_append_getElem
theorem bn8:type_of% @List.idxOf_lt_length_iff:=@List.idxOf_lt_length_iff
theorem bu3:type_of% @List.getElem?_set:=@List.getElem?_set
theorem bu2:type_of% @Array.size_append:=@Array.size_append
theorem bu1:type_of% @Array.getElem?_append_left:=@Array.getElem?_append_left
theorem bu0:type_of% @Nat.mod_eq_of_lt:=@Nat.mod_eq_of_lt
theorem bt9:type_of% @List.take_append_drop:=@List.take_append_drop
theorem bt8:type_of% @List.insertIdx_succ_cons:=@List.insertIdx_succ_cons
theorem bt7:type_of% @Nat.one_mul:=@Nat.one_mul
theorem bt6:type_of% @Nat.le_succ:=@Nat.le_succ
theorem bz9:type_of% @Bool.or_eq_true:=@Bool.or_eq_true
theorem bz8:type_of% @List.mem_filter:=@List.mem_filter
theorem bz7:type_of% @BitVec.toNat_ofNat:=@BitVec.toNat_ofNat
theorem bz6:type_of% @List.map_set:=@List.map_set
theorem bz5:type_of% @List.insertIdx_zero:=@List.insertIdx_zero
theorem bz4:type_of% @List.length_insertIdx_of_le_length:=@List.length_insertIdx_of_le_length
theorem bL9:type_of% @List.headD_cons:=@List.headD_cons
theorem bL8:type_of% @Nat.succ_mul:=@Nat.succ_mul
theorem bL7:type_of% @Array.getElem?_modify:=@Array.getElem?_modify
theorem bL6:type_of% @Nat.min_eq_left:=@Nat.min_eq_left
theorem bL5:type_of% @Array.getElem?_replicate:=@Array.getElem?_replicate
theorem bL4:type_of% @List.take_append_of_le_length:=@List.take_append_of_le_length
theorem bL3:type_of% @List.map_replicate:=@List.map_replicate
theorem bL2:type_of% @List.tail_drop:=@List.tail_drop
theorem b31:type_of% @Array.getElem?_setIfInBounds:=@Array.getElem?_setIfInBounds
theorem b30:type_of% @Int.natCast_mul:=@Int.natCast_mul
theorem b29:type_of% @List.getElem?_replicate:=@List.getElem?_replicate
theorem b26:type_of% @List.map_congr_left:=@List.map_congr_left
theorem b24:type_of% @Array.all_eq_true_iff_forall_mem:=@Array.all_eq_true_iff_forall_mem
theorem b23:type_of% @List.take_add_one:=@List.take_add_one
theorem b21:type_of% @List.drop_suffix:=@List.drop_suffix
theorem bG1:type_of% @List.drop_append_of_le_length:=@List.drop_append_of_le_length
theorem bG0:type_of% @List.replicate_append_replicate:=@List.replicate_append_replicate
theorem bF9:type_of% @List.mem_of_getElem?:=@List.mem_of_getElem?
theorem bF8:type_of% @Array.getElem?_eq_some_iff:=@Array.getElem?_eq_some_iff
theorem bF7:type_of% @List.drop_length:=@List.drop_length
theorem bR9:type_of% @Array.length_toList:=@Array.length_toList
theorem ce5:type_of% @Array.mem_of_getElem?:=@Array.mem_of_getElem?
theorem bR8:type_of% @Int.eq_ofNat_of_zero_le:=@Int.eq_ofNat_of_zero_le
theorem bR7:type_of% @BitVec.ofInt_natCast:=@BitVec.ofInt_natCast
theorem bR6:type_of% @List.getElem_idxOf:=@List.getElem_idxOf
theorem bR5:type_of% @List.idxOf_lt_length_of_mem:=@List.idxOf_lt_length_of_mem
theorem bR4:type_of% @List.isPrefixOf_iff_prefix:=@List.isPrefixOf_iff_prefix
theorem bR3:type_of% @Nat.or_lt_two_pow:=@Nat.or_lt_two_pow
theorem bR0:type_of% @List.mem_reverse:=@List.mem_reverse
theorem bQ9:type_of% @List.sum_cons:=@List.sum_cons
theorem cO1:type_of% @List.any_eq_false:=@List.any_eq_false
theorem bQ8:type_of% @List.foldl_append:=@List.foldl_append
theorem bQ7:type_of% @Nat.zero_mul:=@Nat.zero_mul
theorem bQ6:type_of% @Bool.not_eq_true:=@Bool.not_eq_true
theorem cO0:type_of% @Bool.false_ne_true:=@Bool.false_ne_true
theorem ce4:type_of% @Array.getElem?_map:=@Array.getElem?_map
theorem ce3:type_of% @Array.toList_setIfInBounds:=@Array.toList_setIfInBounds
theorem ce2:type_of% @List.filter_sublist:=@List.filter_sublist
theorem ce1:type_of% @BitVec.toNat_or:=@BitVec.toNat_or
theorem ce0:type_of% @List.takeWhile_cons:=@List.takeWhile_cons
theorem cd9:type_of% @List.any_eq_true:=@List.any_eq_true
theorem cd8:type_of% @List.dropWhile_sublist:=@List.dropWhile_sublist
theorem cd7:type_of% @List.findIdx?_eq_some_iff_getElem:=@List.findIdx?_eq_some_iff_getElem
theorem cd6:type_of% @List.findIdx?_eq_none_iff:=@List.findIdx?_eq_none_iff
theorem cd5:type_of% @Nat.shiftLeft_eq:=@Nat.shiftLeft_eq
theorem cd4:type_of% @List.take_left':=@List.take_left'
theorem cd3:type_of% @Bool.decide_and:=@Bool.decide_and
theorem cd2:type_of% @BitVec.toNat_ofInt:=@BitVec.toNat_ofInt
theorem cN9:type_of% @Option.map_eq_some_iff:=@Option.map_eq_some_iff
theorem cN8:type_of% @Array.getElem?_append:=@Array.getElem?_append
theorem cN7:type_of% @Array.mapM_eq_mapM_toList:=@Array.mapM_eq_mapM_toList
theorem cN6:type_of% @Array.eq_empty_of_size_eq_zero:=@Array.eq_empty_of_size_eq_zero
theorem cN5:type_of% @Array.getElem?_append_right:=@Array.getElem?_append_right
theorem cN4:type_of% @Array.toList_append:=@Array.toList_append
theorem cN3:type_of% @List.filter_eq_nil_iff:=@List.filter_eq_nil_iff
theorem cN2:type_of% @List.filter_eq_self:=@List.filter_eq_self
theorem cN1:type_of% @Int.fdiv_eq_ediv_of_nonneg:=@Int.fdiv_eq_ediv_of_nonneg
theorem cN0:type_of% @List.length_reverse:=@List.length_reverse
theorem cM9:type_of% @List.mem_iff_getElem:=@List.mem_iff_getElem
theorem cM8:type_of% @Nat.shiftRight_eq_div_pow:=@Nat.shiftRight_eq_div_pow
theorem cM7:type_of% @List.replicate_succ:=@List.replicate_succ
theorem cM6:type_of% @List.insertIdx_length_self:=@List.insertIdx_length_self
theorem cM5:type_of% @List.map_eq_nil_iff:=@List.map_eq_nil_iff
theorem nlb{a b:Nat}(h:Nat.ble a b=true):a<=b:=Nat.le_of_ble_eq_true h
namespace V
open Go
def bg7:List Value:=(List.range 256).map fun c=>.int .u8 (Lib.firstT c)
def aL8:List Value:=(List.range 16).flatMap fun i=>[.int .u8 (Lib.accLo i),.int .u8 (Lib.accHi i)]
def bg6:List Value:=(List.range 20).map fun i=>.int .u64 ((10^i:Nat):Int)
def bh3:List Nat:=[0x428a2f98d728ae22,0x7137449123ef65cd,0xb5c0fbcfec4d3b2f,0xe9b5dba58189dbbc,0x3956c25bf348b538,0x59f111f1b605d019,0x923f82a4af194f9b,0xab1c5ed5da6d8118,0xd807aa98a3030242,0x12835b0145706fbe,0x243185be4ee4b28c,0x550c7dc3d5ffb4e2,0x72be5d74f27b896f,0x80deb1fe3b1696b1,0x9bdc06a725c71235,0xc19bf174cf692694,0xe49b69c19ef14ad2,0xefbe4786384f25e3,0x0fc19dc68b8cd5b5,0x240ca1cc77ac9c65,0x2de92c6f592b0275,0x4a7484aa6ea6e483,0x5cb0a9dcbd41fbd4,0x76f988da831153b5,0x983e5152ee66dfab,0xa831c66d2db43210,0xb00327c898fb213f,0xbf597fc7beef0ee4,0xc6e00bf33da88fc2,0xd5a79147930aa725,0x06ca6351e003826f,0x142929670a0e6e70,0x27b70a8546d22ffc,0x2e1b21385c26c926,0x4d2c6dfc5ac42aed,0x53380d139d95b3df,0x650a73548baf63de,0x766a0abb3c77b2a8,0x81c2c92e47edaee6,0x92722c851482353b,0xa2bfe8a14cf10364,0xa81a664bbc423001,0xc24b8b70d0f89791,0xc76c51a30654be30,0xd192e819d6ef5218,0xd69906245565a910,0xf40e35855771202a,0x106aa07032bbd1b8,0x19a4c116b8d2d0c8,0x1e376c085141ab53,0x2748774cdf8eeb99,0x34b0bcb5e19b48a8,0x391c0cb3c5c95a63,0x4ed8aa4ae3418acb,0x5b9cca4f7763e373,0x682e6ff3d6b2b8a3,0x748f82ee5defb2fc,0x78a5636f43172f60,0x84c87814a1f0ab72,0x8cc702081a6439ec,0x90befffa23631e28,0xa4506cebde82bde9,0xbef9a3f7b2c67915,0xc67178f2e372532b,0xca273eceea26619c,0xd186b8c721c0c207,0xeada7dd6cde0eb1e,0xf57d4f7fee6ed178,0x06f067aa72176fba,0x0a637dc5a2c898a6,0x113f9804bef90dae,0x1b710b35131c471b,0x28db77f523047d84,0x32caab7b40c72493,0x3c9ebe0a15c9bebc,0x431d67c49c100d4c,0x4cc5d4becb3e42b6,0x597f299cfc657e2a,0x5fcb6fab3ad6faec,0x6c44198c4a475817]
def a02:List Nat:=[0x6a09e667f3bcc908,0xbb67ae8584caa73b,0x3c6ef372fe94f82b,0xa54ff53a5f1d36f1,0x510e527fade682d1,0x9b05688c2b3e6c1f,0x1f83d9abfb41bd6b,0x5be0cd19137e2179]
def aX6:List Value:=bh3.map fun n:Nat=>.int .u64 (n:Int)
def aR8:List Value:=a02.map fun n:Nat=>.int .u64 (n:Int)
def d64:List Nat:=[1,0,0,0,0]
def cT3:List Nat:=[929955233495203,466365720129213,1662059464998953,2033849074728123,1442794654840575]
def c95:List Nat:=[6346243789798364141,1503914060200516822,0,1152921504606846976]
def dI7:List Nat:=[6346243789798364141,1503914060200516822]
def c50:List Value:=d64.map fun n:Nat=>.int .u64 (n:Int)
def cH1:List Value:=cT3.map fun n:Nat=>.int .u64 (n:Int)
def cj8:List Value:=c95.map fun n:Nat=>.int .u64 (n:Int)
def cH0:List Value:=dI7.map fun n:Nat=>.int .u64 (n:Int)
def bi8:Nat->List Value
 |0=>aX6
 |1=>aR8
 |2=>bg7
 |3=>aL8
 |5=>bg6
 |6=>cj8
 |7=>c50
 |10=>cH0
 |11=>cH1
 |_=>[]
def bp3:Nat->Option Nat
 |12=>some 540
 |13=>some 540
 |_=>none
def dy4:Nat->Bool
 |4=>true
 |_=>false
end V
end
section
namespace V
open Go
inductive Own where
 |sh|full|tok (k:Nat)
 deriving DecidableEq
inductive AV where
 |any
 |lit (v:Value)
 |str (l:List UInt8)
 |sl (o:Own) (s:Nat) (xs:List AV)
 |agg (cs:List AV)
 |tup (vs:List AV)
 |ip (x:AV)
 |mp (k off:Nat)
 |msl (k off len cap:Nat)
 |mrow (k len:Nat)
 |fn (f:Fn) (first captured:List AV)
 |ifc (t:TypeId) (v:AV)
 |err
 |data (x:AV)
 |yld (k:Nat)
 |mapp (k:Nat)
instance:Inhabited AV:=⟨.any⟩
abbrev AV.int(k:IntKind)(n:Int):AV:=.lit (.int k n)
abbrev AV.bool(b:Bool):AV:=.lit (.bool b)
def AV.flat:AV->List AV
 |.agg cs=>cs
 |x=>[x]
def aa2(xs:List AV):List AV:=xs.flatMap AV.flat
def AV.scalar:AV->Bool
 |.lit v=>v.oneCell'
 |.str _|.sl _ _ _|.ip _|.mp _ _|.msl _ _ _ _|.mrow _ _|.fn _ _ _|.ifc _ _|.err|.data _|.yld _|.mapp _=>true
 |_=>false
def AV.okv:AV->Bool
 |.agg cs=>cs.all AV.scalar
 |x=>x.scalar
inductive Shape where
 |one (t:TypeId)
 |raw (t:TypeId)
 |row (s:Nat)
 |prow (s:Nat)
 deriving DecidableEq
abbrev Env:=List (Nat×AV)
def get:Env->Nat->AV
 |[],_=>.any
 |(k,v)::r,t=>if k=t then v else get r t
inductive MO where
 |map (es:List (Nat×AV×AV)) (clock:Nat)
 |iter (m since:Nat) (seen:List Nat) (last:Nat)
inductive AObj where
 |cells (t:Shape) (cs:List AV)
 |grow (s n:Nat) (t:Option TypeId)
 |gone
 |loop (r:Loop) (E:Env)
 |mo (x:MO)
def AObj.isBlk:AObj->Bool
 |.cells _ _|.gone|.mo _=>true
 |.grow _ _ _|.loop _ _=>false
structure Gh where
 imm:Nat->Nat->Prop
 blk:Nat->Nat
 own:Nat->Option Addr×Nat
 lp:Nat->Option Nat
inductive Rel(G:Gh)(H:List AObj)(w:World):AV->Value->Prop
 |any (v:Value):Rel G H w .any v
 |lit (v:Value):Rel G H w (.lit v) v
 |str (l:List UInt8):Rel G H w (.str l) (.string ⟨l.toArray⟩)
 |sl (o:Own) (s:Nat) (xs:List AV) (a:Option Addr) (len cap:Nat) (val:Nat->Value) (hl:len=xs.length) (hcap:len<=cap)
   (hs: ∀x∈xs,x.flat.length=s/\x.okv=true)
   (hc: ∀j x,(aa2 xs)[j]?=some x-> ∃b off,a=some ⟨b,off,none⟩/\G.imm b (off+j)/\w.cell? ⟨b,off+j,none⟩=some (val j))
   (hr: ∀j x,(aa2 xs)[j]?=some x->Rel G H w x (val j))
   (hf:o=.full->cap=len)
   (ha:0 < len->a.isSome=true)
   (ho: ∀k,o=.tok k-> ∃n t,H[k]?=some (.grow s n t)/\xs.length<=n/\(xs.length=n->G.own k=(a,cap))):Rel G H w (.sl o s xs) (.slice a len cap)
 |agg (cs:List AV) (arr:Array Value) (hl:arr.size=cs.length) (hr: ∀(j:Nat) (x:AV) (v:Value),cs[j]?=some x->arr[j]?=some v->Rel G H w x v):Rel G H w (.agg cs) (.agg arr)
 |tup (cs:List AV) (arr:Array Value) (hl:arr.size=cs.length) (hr: ∀(j:Nat) (x:AV) (v:Value),cs[j]?=some x->arr[j]?=some v->Rel G H w x v):Rel G H w (.tup cs) (.tuple arr)
 |ip (x:AV) (b off:Nat) (val:Nat->Value) (hc: ∀j y,x.flat[j]?=some y->G.imm b (off+j)/\w.cell? ⟨b,off+j,none⟩=some (val j))
   (hr: ∀j y,x.flat[j]?=some y->Rel G H w y (val j)):Rel G H w (.ip x) (.pointer (some ⟨b,off,none⟩))
 |mp (k off:Nat) (o:AObj) (h:H[k]?=some o) (ho:o.isBlk=true):Rel G H w (.mp k off) (.pointer (some ⟨G.blk k,off,none⟩))
 |msl (k off len cap:Nat) (o:AObj) (h:H[k]?=some o) (ho:o.isBlk=true) (hcap:len<=cap):Rel G H w (.msl k off len cap) (.slice (some ⟨G.blk k,off,none⟩) len cap)
 |mrow (k len:Nat) (o:AObj) (h:H[k]?=some o) (ho:o.isBlk=true) (hcap:len<=(G.own k).2):Rel G H w (.mrow k len) (.slice (some ⟨G.blk k,0,none⟩) len (G.own k).2)
 |fn (f:Fn) (fs cs:List AV) (fa ca:Array Value) (hf:fa.size=fs.length) (hc:ca.size=cs.length)
   (hrf: ∀(j:Nat) (x:AV) (v:Value),fs[j]?=some x->fa[j]?=some v->Rel G H w x v)
   (hrc: ∀(j:Nat) (x:AV) (v:Value),cs[j]?=some x->ca[j]?=some v->Rel G H w x v):Rel G H w (.fn f fs cs) (.func f fa ca)
 |ifc (t:TypeId) (x:AV) (v:Value) (h:Rel G H w x v):Rel G H w (.ifc t x) (.iface t v)
 |err (u:TypeId) (v:Value):Rel G H w .err (.iface u v)
 |data (x:AV) (a:Option Addr) (len cap:Nat) (h:Rel G H w x (.slice a len cap)) (hc:cap≠0\/a=none):Rel G H w (.data x) (.pointer a)
 |yld (k l:Nat) (o:AObj) (ho:H[k]?=some o) (h:G.lp k=some l):Rel G H w (.yld k) (.func (.yield l) #[] #[])
 |mapp (k:Nat) (o:AObj) (h:H[k]?=some o) (ho:o.isBlk=true):Rel G H w (.mapp k) (.map (some (G.blk k)))
def aI8(G G':Gh)(H':List AObj)(k:Nat):Option AObj->Prop
 |some (.cells _ _)|some (.mo _)=>(∃o',H'[k]?=some o'/\o'.isBlk=true)/\G'.blk k=G.blk k/\G'.own k=G.own k
 |some .gone=>H'[k]?=some .gone/\G'.blk k=G.blk k/\G'.own k=G.own k
 |some (.loop r E)=>H'[k]?=some (.loop r E)/\G'.blk k=G.blk k/\G'.own k=G.own k
 |some (.grow s n t)=> ∃n',H'[k]?=some (.grow s n' t)/\n<=n'/\(n'=n->G'.own k=G.own k)
 |none=> ∀r E,H'[k]?≠some (.loop r E)
structure Step(G:Gh)(H:List AObj)(w:World)(G':Gh)(H':List AObj)(w':World):Prop where
 os:(w'.os,G'.lp)=(w.os,G.lp)
 tape:w'.tape=w.tape
 output:w'.output=w.output
 size:w.heap.size<=w'.heap.size
 imm: ∀b off,G.imm b off->G'.imm b off
 cell: ∀b off,G.imm b off->w'.cell? ⟨b,off,none⟩=w.cell? ⟨b,off,none⟩
 whole: ∀b,(∀off,G.imm b off)->w'.heap[b]?=w.heap[b]?
 obj: ∀k,aI8 G G' H' k H[k]?
theorem aN5{H:List AObj}{k:Nat}(h:H[k]?=none): ∀r E,H[k]?≠some (.loop r E):=fun r E e=>by rw[h] at e;cases e
theorem bH5{H:List AObj}{k:Nat}{x:AObj}(h:H[k]?=none)(hx: ∀r E,x≠ .loop r E): ∀r E,(H++[x])[k]?≠some (.loop r E):=fun r E e=>by
 have hk:H.length<=k:=by
  rcases xq8 k H.length with hl|hl
  ·rw[xq1 hl] at h;cases h
  ·exact hl
 rw[xq5 hk] at e;cases hn:k - H.length with
 |zero=>rw[hn] at e;cases e;exact hx _ _ rfl
 |succ n=>rw[hn] at e;cases e
theorem bs1{H:List AObj}{k j:Nat}{x:AObj}(h:H[k]?=none): ∀r E,(H.set j x)[k]?≠some (.loop r E):=by
 refine aN5 ?_;rcases xq8 k H.length with hl|hl
 ·rw[xq1 hl] at h;cases h
 ·exact aw1 (by rw[List.length_set];exact hl)
theorem Step.refl(G:Gh)(H:List AObj)(w:World):Step G H w G H w:=
 ⟨rfl,rfl,rfl,xq0 _,fun _ _ h=>h,fun _ _ _=>rfl,fun _ _=>rfl,fun k=>by
  cases h:H[k]? with
  |none=>exact aN5 h
  |some o=>cases o with
   |cells t cs=>exact⟨⟨_,h,rfl⟩,rfl,rfl⟩
   |mo x=>exact⟨⟨_,h,rfl⟩,rfl,rfl⟩
   |gone=>exact⟨h,rfl,rfl⟩
   |loop r E=>exact⟨h,rfl,rfl⟩
   |grow s n t=>exact⟨n,h,xq0 _,fun _=>rfl⟩⟩
theorem bN7{G G':Gh}{H':List AObj}{k:Nat}{o:AObj}(ho:o.isBlk=true)(h:aI8 G G' H' k (some o)):(∃o',H'[k]?=some o'/\o'.isBlk=true)/\G'.blk k=G.blk k/\G'.own k=G.own k:=by
 cases o with
 |cells t cs=>exact h
 |mo x=>exact h
 |gone=>exact⟨⟨_,h.1,rfl⟩,h.2⟩
 |grow s n t=>cases ho
 |loop r E=>cases ho
theorem Step.blk{G G':Gh}{H H':List AObj}{w w':World}(st:Step G H w G' H' w'){k:Nat}{o:AObj}(h:H[k]?=some o)(ho:o.isBlk=true):(∃o',H'[k]?=some o'/\o'.isBlk=true)/\G'.blk k=G.blk k/\G'.own k=G.own k:=by
 have:=st.obj k;rw[h] at this;exact bN7 ho this
theorem Step.lp{G G':Gh}{H H':List AObj}{w w':World}(st:Step G H w G' H' w'):G'.lp=G.lp:=congrArg Prod.snd st.os
theorem Step.osEq{G G':Gh}{H H':List AObj}{w w':World}(st:Step G H w G' H' w'):w'.os=w.os:=congrArg Prod.fst st.os
theorem Step.there{G G':Gh}{H H':List AObj}{w w':World}(st:Step G H w G' H' w'){k:Nat}{o:AObj}(h:H[k]?=some o): ∃o',H'[k]?=some o':=by
 have:=st.obj k;rw[h] at this;cases o with
 |cells t cs=>exact⟨_,this.1.choose_spec.1⟩
 |mo x=>exact⟨_,this.1.choose_spec.1⟩
 |gone=>exact⟨_,this.1⟩
 |loop r E=>exact⟨_,this.1⟩
 |grow s n t=>exact⟨_,this.choose_spec.1⟩
theorem co7{G G':Gh}{H H':List AObj}{k:Nat}(this:aI8 G G' H' k H[k]?){r:Loop}{E:Env}(h:H'[k]?=some (.loop r E)):H[k]?=some (.loop r E):=by
 cases e:H[k]? with
 |none=>rw[e] at this;exact absurd h (this r E)
 |some o=>
  rw[e] at this;cases o with
  |cells t cs=>
   obtain⟨⟨o',e',l'⟩,_⟩:=this;rw[h] at e';cases e'
   cases l'
  |mo x=>
   obtain⟨⟨o',e',l'⟩,_⟩:=this;rw[h] at e';cases e'
   cases l'
  |gone=>
   have h2:H'[k]?=some .gone:=this.1;rw[h] at h2;cases h2
  |loop r' E'=>
   have h2:H'[k]?=some (.loop r' E'):=this.1;rw[h] at h2;cases h2
   rfl
  |grow s n t=>
   obtain⟨n',e',_⟩:=this;rw[h] at e';cases e'
theorem Step.back{G G':Gh}{H H':List AObj}{w w':World}(st:Step G H w G' H' w'){k:Nat}{r:Loop}{E:Env}(h:H'[k]?=some (.loop r E)):H[k]?=some (.loop r E):=co7 (st.obj k) h
theorem b83{G₁ G₂ G₃:Gh}{H₁ H₂ H₃:List AObj}{i:Nat}(h1:aI8 G₁ G₂ H₂ i H₁[i]?)(h2:aI8 G₂ G₃ H₃ i H₂[i]?):aI8 G₁ G₃ H₃ i H₁[i]?:=by
 have hb:=fun(r:Loop) (E:Env) (e3:H₃[i]?=some (.loop r E))=>co7 h2 e3
 cases e:H₁[i]? with
 |none=>
  rw[e] at h1;exact fun r E e3=>h1 r E (hb r E e3)
 |some o=>
  rw[e] at h1;cases o with
  |cells t cs=>
   obtain⟨⟨o',e',l'⟩,b',c'⟩:=h1;rw[e'] at h2;obtain⟨⟨o'',e'',l''⟩,b'',c''⟩:=bN7 l' h2;exact⟨⟨o'',e'',l''⟩,b''.trans b',c''.trans c'⟩
  |mo x=>
   obtain⟨⟨o',e',l'⟩,b',c'⟩:=h1;rw[e'] at h2;obtain⟨⟨o'',e'',l''⟩,b'',c''⟩:=bN7 l' h2;exact⟨⟨o'',e'',l''⟩,b''.trans b',c''.trans c'⟩
  |gone=>
   obtain⟨e',b',c'⟩:=h1;rw[e'] at h2;exact⟨h2.1,h2.2.1.trans b',h2.2.2.trans c'⟩
  |loop r E=>
   obtain⟨e',b',c'⟩:=h1;rw[e'] at h2;exact⟨h2.1,h2.2.1.trans b',h2.2.2.trans c'⟩
  |grow s n t=>
   obtain⟨n',e',l',o'⟩:=h1;rw[e'] at h2;obtain⟨n'',e'',l'',o''⟩:=h2;exact⟨n'',e'',by omega,fun this=>by
    have:n'=n:=by omega
    rw[o'' (by omega),o' this]⟩
theorem Step.trans{G₁ G₂ G₃:Gh}{H₁ H₂ H₃:List AObj}{w₁ w₂ w₃:World}(h:Step G₁ H₁ w₁ G₂ H₂ w₂)(k:Step G₂ H₂ w₂ G₃ H₃ w₃):Step G₁ H₁ w₁ G₃ H₃ w₃:=
 ⟨k.os.trans h.os,k.tape.trans h.tape,k.output.trans h.output,aE0 h.size k.size,fun b o hi=>k.imm b o (h.imm b o hi),
  fun b o hi=>(k.cell b o (h.imm b o hi)).trans (h.cell b o hi),fun b hi=>(k.whole b fun o=>h.imm b o (hi o)).trans (h.whole b hi),fun i=>b83 (h.obj i) (k.obj i)⟩
theorem Rel.mono{G G':Gh}{H H':List AObj}{w w':World}(h:Step G H w G' H' w'){x:AV}{v:Value}(r:Rel G H w x v):Rel G' H' w' x v:=by
 induction r with
 |any v=>exact .any v
 |lit v=>exact .lit v
 |str l=>exact .str l
 |sl o s xs a len cap val hl hcap hs hc hr hf ha ho ih=>
  refine .sl o s xs a len cap val hl hcap hs (fun j x e=>?_) ih hf ha (fun k e=>?_)
  ·obtain⟨b,off,ea,hi,hw⟩:=hc j x e
   exact⟨b,off,ea,h.imm _ _ hi,(h.cell _ _ hi).trans hw⟩
  ·obtain⟨n,t,en,hn,hown⟩:=ho k e
   have:=h.obj k;rw[en] at this;obtain⟨n',en',hle,ho'⟩:=this;exact⟨n',t,en',by omega,fun e'=>by rw[ho' (by omega)];exact hown (by omega)⟩
 |agg cs arr hl hr ih=>exact .agg cs arr hl ih
 |tup cs arr hl hr ih=>exact .tup cs arr hl ih
 |ip x b off val hc hr ih=>exact .ip x b off val (fun j y e=>⟨h.imm _ _ (hc j y e).1,(h.cell _ _ (hc j y e).1).trans (hc j y e).2⟩) ih
 |mp k off o e ho=>
  obtain⟨⟨o',e',ho'⟩,eb,_⟩:=h.blk e ho;rw[<-eb];exact .mp k off o' e' ho'
 |msl k off len cap o e ho hcap=>
  obtain⟨⟨o',e',ho'⟩,eb,_⟩:=h.blk e ho;rw[<-eb];exact .msl k off len cap o' e' ho' hcap
 |mrow k len o e ho hcap=>
  obtain⟨⟨o',e',ho'⟩,eb,ec⟩:=h.blk e ho;rw[<-eb,<-ec];exact .mrow k len o' e' ho' (by rw[ec];exact hcap)
 |fn f fs cs fa ca hf hc _ _ ihf ihc=>exact .fn f fs cs fa ca hf hc ihf ihc
 |ifc t x v _ ih=>exact .ifc t x v ih
 |err u v=>exact .err u v
 |data x a len cap _ hc ih=>exact .data x a len cap ih hc
 |yld k l o ho e=>
  obtain⟨o',ho'⟩:=h.there ho;exact .yld k l o' ho' (by rw[h.lp];exact e)
 |mapp k o e ho=>
  obtain⟨⟨o',e',ho'⟩,eb,_⟩:=h.blk e ho;rw[<-eb];exact .mapp k o' e' ho'
def site(G:Gh)(H:List AObj)(k:Nat):Option Nat:=
 match H[k]? with
 |some (.cells _ _)|some (.mo _)=>some (G.blk k)
 |some .gone=>none
 |some (.loop _ _)=>none
 |some (.grow _ n t)=>match G.own k with
  |(some a,cap)=>if n < cap\/t.isSome=true/\0 < cap then some a.block else none
  |_=>none
 |none=>none
inductive Low(m:Nat):AV->Prop
 |any:Low m .any
 |lit (v:Value):Low m (.lit v)
 |str (l:List UInt8):Low m (.str l)
 |sl (o:Own) (s:Nat) (xs:List AV) (ho: ∀k,o=.tok k->k < m) (h: ∀x∈aa2 xs,Low m x):Low m (.sl o s xs)
 |agg (cs:List AV) (h: ∀x∈cs,Low m x):Low m (.agg cs)
 |tup (cs:List AV) (h: ∀x∈cs,Low m x):Low m (.tup cs)
 |ip (x:AV) (h: ∀y∈x.flat,Low m y):Low m (.ip x)
 |mp (k off:Nat) (h:k < m):Low m (.mp k off)
 |msl (k off len cap:Nat) (h:k < m):Low m (.msl k off len cap)
 |mrow (k len:Nat) (h:k < m):Low m (.mrow k len)
 |fn (f:Fn) (fs cs:List AV) (hf: ∀x∈fs,Low m x) (hc: ∀x∈cs,Low m x):Low m (.fn f fs cs)
 |ifc (t:TypeId) (x:AV) (h:Low m x):Low m (.ifc t x)
 |err:Low m .err
 |data (x:AV) (h:Low m x):Low m (.data x)
 |yld (k:Nat) (h:k < m):Low m (.yld k)
 |mapp (k:Nat) (h:k < m):Low m (.mapp k)
def ch1(G:Gh)(w:World):Prop:=(∀g j v,(bi8 g)[j]?=some v->G.imm g j/\w.cell? ⟨g,j,none⟩=some v)/\(∀g t,bp3 g=some t->G.imm g 0/\ ∃t v,w.cell? ⟨g,0,none⟩=some (.iface t v))/\ ∀g,dy4 g=true->G.imm g 0/\ ∃n,w.cell? ⟨g,0,none⟩=some (.int .i64 n)
def d09(G:Gh)(H:List AObj)(w:World):Prop:=(∀k l,G.lp k=some l->l < w.heap.size)/\(∀k k' l,G.lp k=some l->G.lp k'=some l->k=k')/\ ∀k l r E,G.lp k=some l->H[k]?=some (.loop r E)->(∀off,G.imm l off)/\w.heap[l]?=some (.loop r)/\ ∀t,Low k (get E t)/\Rel G H w (get E t) (r.tmps.getD t undef)
def aQ2(G:Gh)(H:List AObj)(w:World):MO->Obj->Prop
 |.map es c,o=> ∃arr:Array MapEntry,o=.map arr c/\arr.size=es.length/\ ∀(j:Nat) e v,es[j]?=some e->arr[j]?=some v->v.born=e.1/\Rel G H w e.2.1 v.key/\Rel G H w e.2.2 v.val
 |.iter m since seen last,o=>o=.mapIter (some (G.blk m)) since seen.toArray last/\ ∃x,H[m]?=some x/\x.isBlk=true
def MO.low(m:Nat):MO->Prop
 |.map es _=> ∀e∈es,Low m e.2.1/\Low m e.2.2
 |.iter k _ _ _=>k < m
def AObj.low(m:Nat):AObj->Prop
 |.cells _ cs=> ∀x∈cs,Low m x
 |.mo x=>x.low m
 |_=>True
theorem aQ2.mono{G G':Gh}{H H':List AObj}{w w':World}(st:Step G H w G' H' w'){x:MO}{o:Obj}(h:aQ2 G H w x o):aQ2 G' H' w' x o:=by
 cases x with
 |map es c=>
  obtain⟨arr,rfl,hs,hr⟩:=h;exact⟨arr,rfl,hs,fun j e v e1 e2=>⟨(hr j e v e1 e2).1,(hr j e v e1 e2).2.1.mono st,(hr j e v e1 e2).2.2.mono st⟩⟩
 |iter m since seen last=>
  obtain⟨rfl,x,hx,hb⟩:=h;obtain⟨h1,h2,_⟩:=st.blk hx hb;exact⟨by rw[h2],h1⟩
def ch7(G:Gh)(H:List AObj)(w:World):Prop:= ∀k x,H[k]?=some (.mo x)->(∀off,¬G.imm (G.blk k) off)/\ ∃o,w.heap[G.blk k]?=some o/\aQ2 G H w x o
def b08(G:Gh)(H:List AObj)(w:World):Prop:=(ch1 G w/\ch7 G H w)/\d09 G H w
theorem ch1.step{G G':Gh}{H H':List AObj}{w w':World}(h:ch1 G w)(st:Step G H w G' H' w'):ch1 G' w':=
 ⟨fun g j v e=>⟨st.imm _ _ (h.1 g j v e).1,(st.cell _ _ (h.1 g j v e).1).trans (h.1 g j v e).2⟩,
  fun g t e=>⟨st.imm _ _ (h.2.1 g t e).1,let ⟨u,v,hv⟩:=(h.2.1 g t e).2;⟨u,v,(st.cell _ _ (h.2.1 g t e).1).trans hv⟩⟩,
  fun g e=>⟨st.imm _ _ (h.2.2 g e).1,let ⟨n,hn⟩:=(h.2.2 g e).2;⟨n,(st.cell _ _ (h.2.2 g e).1).trans hn⟩⟩⟩
def dl3(G G':Gh)(H H':List AObj)(w w':World):Prop:= ∀k x,H'[k]?=some (.mo x)->H[k]?=some (.mo x)/\w'.heap[G.blk k]?=w.heap[G.blk k]?/\ ∀off,G'.imm (G.blk k) off->G.imm (G.blk k) off
theorem ch7.step{G G':Gh}{H H':List AObj}{w w':World}(h:ch7 G H w)(st:Step G H w G' H' w')(hm:dl3 G G' H H' w w'):ch7 G' H' w':=fun k x e=>by
 obtain⟨h1,h2,h3⟩:=hm k x e;obtain⟨h4,o,h5,h6⟩:=h k x h1;rw[(st.blk h1 rfl).2.1];exact⟨fun off hi=>h4 off (h3 off hi),o,h2.trans h5,h6.mono st⟩
theorem b08.step{G G':Gh}{H H':List AObj}{w w':World}(h:b08 G H w)(st:Step G H w G' H' w')(hm:dl3 G G' H H' w w'):b08 G' H' w':=
 ⟨⟨h.1.1.step st,h.1.2.step st hm⟩,fun k l e=>aB2 (h.2.1 k l (by rw[<-st.lp];exact e)) st.size,fun k k' l e e'=>h.2.2.1 k k' l (by rw[<-st.lp];exact e) (by rw[<-st.lp];exact e'),fun k l r E e1 e2=>by
  rw[st.lp] at e1;obtain⟨h1,h2,h3⟩:=h.2.2.2 k l r E e1 (st.back e2);exact⟨fun off=>st.imm _ _ (h1 off),(st.whole l h1).trans h2,fun t=>⟨(h3 t).1,(h3 t).2.mono st⟩⟩⟩
def aS0(G:Gh)(k:Nat)(sh:Shape)(n:Nat)(T:TypeId)(size:Nat)(fr:Nat×Nat):Prop:=
 match sh with
 |.one t=>T=t/\size=n/\fr.2=0
 |.raw t=>T=t/\size=n
 |.row s=>0 < s/\size=(G.own k).2*s
 |.prow s=>0 < s/\size=(G.own k).2*s/\fr.2=0
theorem aI5{G G':Gh}{k:Nat}(h:G'.own k=G.own k){sh:Shape}{n:Nat}{T:TypeId}{size:Nat}{fr:Nat×Nat}(hs:aS0 G k sh n T size fr):aS0 G' k sh n T size fr:=by
 unfold aS0 at hs⊢;rw[h];exact hs
def b33(G:Gh)(w:World)(k s n:Nat)(t:Option TypeId):Prop:= ∀e,t=some e->G.own k=(none,0)\/ ∃b arr fr,(G.own k).1=some ⟨b,0,none⟩/\0 < (G.own k).2/\w.heap[b]?=some (.cells arr e fr)/\arr.size=(G.own k).2*s/\(fr.1=fr.2\/fr.2<=n*s)/\ ∀off,arr.size<=off-> ¬G.imm b off
theorem aj1{G G':Gh}{w w':World}{k s n n':Nat}{t:Option TypeId}(h:b33 G w k s n t)(ho:G'.own k=G.own k)(hn:n<=n')(hw: ∀(b:Nat) arr e fr,w.heap[b]?=some (.cells arr e fr)-> ∃arr',w'.heap[b]?=some (.cells arr' e fr)/\arr'.size=arr.size)
  (hm: ∀(b off:Nat) arr e fr,w.heap[b]?=some (.cells arr e fr)->(G.own k).1=some ⟨b,0,none⟩->0 < (G.own k).2->t.isSome=true->G'.imm b off->arr.size<=off->G.imm b off):b33 G' w' k s n' t:=fun e et=>by
 rcases h e et with h|⟨b,arr,fr,h1,h2,h3,h4,h7,h8⟩
 ·exact .inl (ho.trans h)
 ·obtain⟨arr',h5,h6⟩:=hw b arr e fr h3
  have:=aG2 s hn;exact .inr ⟨b,arr',fr,by rw[ho];exact h1,by rw[ho];exact h2,h5,by rw[ho,h6];exact h4,h7.imp id fun h=>by omega,fun off hl hi=>h8 off (by omega) (hm b off arr e fr h3 h1 h2 (by rw[et];rfl) hi (by omega))⟩
structure HInv(G:Gh)(H:List AObj)(w:World):Prop where
 lt: ∀b off,G.imm b off->b < w.heap.size
 cells: ∀k sh cs,H[k]?=some (.cells sh cs)-> ∃arr T fr,w.heap[G.blk k]?=some (.cells arr T fr)/\cs.length<=arr.size/\
  (∀(j:Nat) (x:AV) (v:Value),cs[j]?=some x->arr[j]?=some v->Rel G H w x v)/\(∀off,¬G.imm (G.blk k) off)/\(∀off,off < arr.size->w.frozen? ⟨G.blk k,off,none⟩=false)/\aS0 G k sh cs.length T arr.size fr
 grow: ∀k s n t,H[k]?=some (.grow s n t)->0 < s/\n<=(G.own k).2/\(n < (G.own k).2-> ∃b off arr T fr,(G.own k).1=some ⟨b,off,none⟩/\
  w.heap[b]?=some (.cells arr T fr)/\off+(G.own k).2*s<=arr.size/\(∀j,off+n*s<=j->j < off+(G.own k).2*s-> ¬G.imm b j/\w.frozen? ⟨b,j,none⟩=false))/\b33 G w k s n t
 apart: ∀k k' b,site G H k=some b->site G H k'=some b->k=k'
 tabs:b08 G H w
theorem HInv.site_lt{G:Gh}{H:List AObj}{w:World}(h:HInv G H w){k b:Nat}(e:site G H k=some b):b < w.heap.size:=by
 unfold site at e;split at e
 ·rename_i sh cs hk
  obtain⟨arr,T,fr,hb,_⟩:=h.cells k sh cs hk;cases e
  rcases xq8 (G.blk k) w.heap.size with hl|hl
  ·exact hl
  ·simp[bo4 hl] at hb
 ·rename_i x hk
  obtain⟨_,o,hb,_⟩:=h.tabs.1.2 k x hk;cases e
  rcases xq8 (G.blk k) w.heap.size with hl|hl
  ·exact hl
  ·simp[bo4 hl] at hb
 ·cases e
 ·cases e
 ·rename_i s n t hk
  split at e
  ·rename_i a cap ho
   split at e
   ·rename_i hc
    obtain⟨_,_,hg,hty⟩:=h.grow k s n _ hk;rw[ho] at hg;rcases hc with hc|⟨hc,hc2⟩
    ·obtain⟨b',off,arr,T,fr,ea,hb,_⟩:=hg hc
     cases e
     cases ea
     rcases xq8 b' w.heap.size with hl|hl
     ·exact hl
     ·simp[bo4 hl] at hb
    ·obtain⟨e',rfl⟩:=Option.isSome_iff_exists.1 hc
     rcases hty e' rfl with h'|⟨b',arr,fr,ea,_,hb,_⟩
     ·rw[ho] at h';cases h'
     ·rw[ho] at ea
      cases e
      cases ea
      rcases xq8 b' w.heap.size with hl|hl
      ·exact hl
      ·simp[bo4 hl] at hb
   ·cases e
  ·cases e
 ·cases e
theorem HInv.mo_lt{G:Gh}{H:List AObj}{w:World}(h:HInv G H w){k:Nat}{x:MO}(e:H[k]?=some (.mo x)):G.blk k < w.heap.size:=h.site_lt (k:=k) (by simp[site,e])
theorem HInv.mo_apart{G:Gh}{H:List AObj}{w:World}(h:HInv G H w){k i:Nat}{x:MO}{b:Nat}(e:H[k]?=some (.mo x))(hs:site G H i=some b)(hne:k≠i):G.blk k≠b:=fun hb=>hne (h.apart k i b (by simp[site,e,hb]) hs)
theorem aa0{α:Type}{l:List α}{k:Nat}{x:α}(h:l[k]?=some x):k < l.length:=by
 rcases xq8 k l.length with hl|hl
 ·exact hl
 ·simp[aw1 hl] at h
theorem Rel.low{G:Gh}{H:List AObj}{w:World}{x:AV}{v:Value}(r:Rel G H w x v):Low H.length x:=by
 induction r with
 |any v=>exact .any
 |lit v=>exact .lit v
 |str l=>exact .str l
 |sl o s xs a len cap val hl hcap hs hc hr hf ha ho ih=>
  refine .sl o s xs (fun k e=>?_) (fun x hx=>?_)
  ·obtain⟨n,t,en,_⟩:=ho k e
   exact aa0 en
  ·obtain⟨j,hj⟩:=ar7.1 hx
   exact ih j x hj
 |agg cs arr hl hr ih=>
  refine .agg cs fun x hx=>?_
  obtain⟨j,hj⟩:=ar7.1 hx;have:j < arr.size:=by rw[hl];exact aa0 hj
  exact ih j x arr[j] hj (xq2 this)
 |tup cs arr hl hr ih=>
  refine .tup cs fun x hx=>?_
  obtain⟨j,hj⟩:=ar7.1 hx;have:j < arr.size:=by rw[hl];exact aa0 hj
  exact ih j x arr[j] hj (xq2 this)
 |ip x b off val hc hr ih=>
  refine .ip x fun y hy=>?_
  obtain⟨j,hj⟩:=ar7.1 hy;exact ih j y hj
 |mp k off o e _=>exact .mp k off (aa0 e)
 |msl k off len cap o e _ hcap=>exact .msl k off len cap (aa0 e)
 |mrow k len o e _ hcap=>exact .mrow k len (aa0 e)
 |fn f fs cs fa ca hf hc _ _ ihf ihc=>
  refine .fn f fs cs (fun x hx=>?_) (fun x hx=>?_)
  ·obtain⟨j,hj⟩:=ar7.1 hx
   have:j < fa.size:=by rw[hf];exact aa0 hj
   exact ihf j x fa[j] hj (xq2 this)
  ·obtain⟨j,hj⟩:=ar7.1 hx
   have:j < ca.size:=by rw[hc];exact aa0 hj
   exact ihc j x ca[j] hj (xq2 this)
 |ifc t x v _ ih=>exact .ifc t x ih
 |err u v=>exact .err
 |data x a len cap _ _ ih=>exact .data x ih
 |yld k l o e _=>exact .yld k (aa0 e)
 |mapp k o e _=>exact .mapp k (aa0 e)
theorem HInv.low{G:Gh}{H:List AObj}{w:World}(h:HInv G H w){k:Nat}{o:AObj}(e:H[k]?=some o):o.low H.length:=by
 cases o with
 |cells sh cs=>
  obtain⟨arr,T,fr,hb,hsz,hr,_⟩:=h.cells k sh cs e;intro y hy;obtain⟨j,hj⟩:=ar7.1 hy;have hja:j < arr.size:=aB2 (aa0 hj) hsz;exact(hr j y _ hj (xq2 hja)).low
 |mo x=>
  obtain⟨_,o,_,h3⟩:=h.tabs.1.2 k x e;cases x with
  |map es c=>
   obtain⟨arr,rfl,hs,hr⟩:=h3;intro u hu;obtain⟨j,hj⟩:=ar7.1 hu;have hja:j < arr.size:=by rw[hs];exact aa0 hj
   have:=hr j u _ hj (xq2 hja);exact⟨this.2.1.low,this.2.2.low⟩
  |iter i since seen last=>
   obtain⟨rfl,y,hy,hb⟩:=h3;exact aa0 hy
 |_=>trivial
theorem Rel.cut{G:Gh}{H:List AObj}{w:World}{x:AV}{v:Value}(m:Nat)(r:Rel G H w x v)(hx:Low m x):Rel G (H.take m) w x v:=by
 have tk: ∀(k:Nat),k < m->(H.take m)[k]?=H[k]?:=fun k hk=>by simp[hk]
 induction r with
 |any v=>exact .any v
 |lit v=>exact .lit v
 |str l=>exact .str l
 |sl o s xs a len cap val hl hcap hs hc hr hf ha ho ih=>
  cases hx with
  |sl _ _ _ hk h=>
   refine .sl o s xs a len cap val hl hcap hs hc (fun j x e=>ih j x e (h x (ar7.2 ⟨j,e⟩))) hf ha (fun k e=>?_)
   obtain⟨n,t,en,hn⟩:=ho k e;exact⟨n,t,by rw[tk k (hk k e)];exact en,hn⟩
 |agg cs arr hl hr ih=>
  cases hx with
  |agg _ h=>exact .agg cs arr hl fun j x v e e'=>ih j x v e e' (h x (ar7.2 ⟨j,e⟩))
 |tup cs arr hl hr ih=>
  cases hx with
  |tup _ h=>exact .tup cs arr hl fun j x v e e'=>ih j x v e e' (h x (ar7.2 ⟨j,e⟩))
 |ip x b off val hc hr ih=>
  cases hx with
  |ip _ h=>exact .ip x b off val hc fun j y e=>ih j y e (h y (ar7.2 ⟨j,e⟩))
 |mp k off o e ho=>
  cases hx with
  |mp _ _ h=>exact .mp k off o (by rw[tk k h];exact e) ho
 |msl k off len cap o e ho hcap=>
  cases hx with
  |msl _ _ _ _ h=>exact .msl k off len cap o (by rw[tk k h];exact e) ho hcap
 |mrow k len o e ho hcap=>
  cases hx with
  |mrow _ _ h=>exact .mrow k len o (by rw[tk k h];exact e) ho hcap
 |fn f fs cs fa ca hf hc _ _ ihf ihc=>
  cases hx with
  |fn _ _ _ h1 h2=>exact .fn f fs cs fa ca hf hc (fun j x v e e'=>ihf j x v e e' (h1 x (ar7.2 ⟨j,e⟩))) (fun j x v e e'=>ihc j x v e e' (h2 x (ar7.2 ⟨j,e⟩)))
 |ifc t x v _ ih=>
  cases hx with
  |ifc _ _ h=>exact .ifc t x v (ih h)
 |err u v=>exact .err u v
 |data x a len cap _ hc ih=>
  cases hx with
  |data _ h=>exact .data x a len cap (ih h) hc
 |yld k l o e h=>
  cases hx with
  |yld _ hk=>exact .yld k l o (by rw[tk k hk];exact e) h
 |mapp k o e ho=>
  cases hx with
  |mapp _ h=>exact .mapp k o (by rw[tk k h];exact e) ho
theorem Low.mono{m n:Nat}(hmn:m<=n){x:AV}(h:Low m x):Low n x:=by
 induction h with
 |any=>exact .any
 |lit v=>exact .lit v
 |str l=>exact .str l
 |sl o s xs ho _ ih=>exact .sl o s xs (fun k e=>aB2 (ho k e) hmn) ih
 |agg cs _ ih=>exact .agg cs ih
 |tup cs _ ih=>exact .tup cs ih
 |ip x _ ih=>exact .ip x ih
 |mp k off h=>exact .mp k off (aB2 h hmn)
 |msl k off len cap h=>exact .msl k off len cap (aB2 h hmn)
 |mrow k len h=>exact .mrow k len (aB2 h hmn)
 |fn f fs cs _ _ ihf ihc=>exact .fn f fs cs ihf ihc
 |ifc t x _ ih=>exact .ifc t x ih
 |err=>exact .err
 |data x _ ih=>exact .data x ih
 |yld k h=>exact .yld k (aB2 h hmn)
 |mapp k h=>exact .mapp k (aB2 h hmn)
def AObj.isMo:AObj->Bool
 |.mo _=>true
 |_=>false
theorem aA5{o:AObj}{m:Nat}(h: ∀sh cs,o=.cells sh cs-> ∀y∈cs,Low m y)(hn:o.isMo=false):o.low m:=by
 cases o with
 |cells sh cs=>exact h sh cs rfl
 |mo x=>cases hn
 |_=>trivial
theorem AObj.low_mono{m n:Nat}(hmn:m<=n){o:AObj}(h:o.low m):o.low n:=by
 cases o with
 |cells sh cs=>exact fun x hx=>(h x hx).mono hmn
 |mo x=>cases x with
  |map es c=>exact fun e he=>⟨(h e he).1.mono hmn,(h e he).2.mono hmn⟩
  |iter k _ _ _=>exact aB2 (show k < m from h) hmn
 |_=>trivial
theorem HInv.cut{G:Gh}{H:List AObj}{w:World}(h:HInv G H w)(m:Nat)(hl: ∀k o,k < m->H[k]?=some o->o.low m):HInv G (H.take m) w:=by
 have tk: ∀(k:Nat) o,(H.take m)[k]?=some o->k < m/\H[k]?=some o:=fun k o e=>by
  rw[aB1] at e;split at e
  ·exact⟨by assumption,e⟩
  ·cases e
 refine⟨h.lt,fun k sh cs e=>?_,fun k s n t e=>h.grow k s n t (tk k _ e).2,fun k k' b e e'=>?_,⟨h.tabs.1.1,fun k x e=>?_⟩,h.tabs.2.1,h.tabs.2.2.1,fun k l r E e1 e2=>?_⟩
 rotate_left 2
 ·obtain⟨hk,e'⟩:=tk k _ e
  obtain⟨h1,o,h2,h3⟩:=h.tabs.1.2 k x e';refine⟨h1,o,h2,?_⟩;have hx:=hl k _ hk e';cases x with
  |map es c=>
   obtain⟨arr,rfl,hs,hr⟩:=h3;exact⟨arr,rfl,hs,fun j u v e1 e2=>⟨(hr j u v e1 e2).1,(hr j u v e1 e2).2.1.cut m (hx u (ar7.2 ⟨j,e1⟩)).1,(hr j u v e1 e2).2.2.cut m (hx u (ar7.2 ⟨j,e1⟩)).2⟩⟩
  |iter i since seen last=>
   obtain⟨rfl,y,hy,hb⟩:=h3;exact⟨rfl,y,by rw[List.getElem?_take_of_lt (show i < m from hx)];exact hy,hb⟩
 ·obtain⟨hk,e'⟩:=tk k _ e2
  obtain⟨h1,h2,h3⟩:=h.tabs.2.2.2 k l r E e1 e';exact⟨h1,h2,fun t=>⟨(h3 t).1,(h3 t).2.cut m ((h3 t).1.mono (Nat.le_of_lt hk))⟩⟩
 ·obtain⟨hk,e'⟩:=tk k _ e
  obtain⟨arr,T,fr,hb,hs,hr,hf⟩:=h.cells k sh cs e';exact⟨arr,T,fr,hb,hs,fun j x v ex ev=>(hr j x v ex ev).cut m (hl k _ hk e' x (ar7.2 ⟨j,ex⟩)),hf⟩
 ·have st: ∀k b,site G (H.take m) k=some b->site G H k=some b:=fun k b e=>by
   unfold site at e⊢;cases ho:(H.take m)[k]? with
   |none=>rw[ho] at e;cases e
   |some o=>rw[(tk k o ho).2];rw[ho] at e;exact e
  exact h.apart k k' b (st k b e) (st k' b e')
theorem Step.cut{G G':Gh}{H H':List AObj}{w w':World}(h:Step G H w G' H' w'){m:Nat}(hm:H.length<=m):Step G H w G' (H'.take m) w':=by
 refine⟨h.os,h.tape,h.output,h.size,h.imm,h.cell,h.whole,fun k=>?_⟩
 have:=h.obj k;cases e:H[k]? with
 |none=>
  rw[e] at this;intro r E e';rw[aB1] at e';split at e'
  ·exact this r E e'
  ·cases e'
 |some o=>
  have hk:k < m:=aB2 (aa0 e) hm;have tk:(H'.take m)[k]?=H'[k]?:=by simp[hk]
  rw[e] at this;cases o with
  |cells t cs=>exact⟨by rw[tk];exact this.1,this.2⟩
  |mo x=>exact⟨by rw[tk];exact this.1,this.2⟩
  |gone=>exact⟨by rw[tk];exact this.1,this.2⟩
  |loop r E=>exact⟨by rw[tk];exact this.1,this.2⟩
  |grow s n t=>simpa only[aI8,tk] using this
end V
end
section
namespace V
open Go
variable {ds:List Deferred}
universe u
def ap0:Value->AV
 |.string s=>.str s.data.toList
 |.slice none 0 0=>.sl .full 0 []
 |v=>.lit v
def aF3:Value->AV
 |.agg cs=>.agg (cs.toList.map ap0)
 |v=>ap0 v
def aq3(g:Nat):AV:=match bp3 g with
 |some t=>.ip .err
 |none=>if bi8 g=[] then .lit (.pointer (some ⟨g,0,none⟩)) else .ip (.agg ((bi8 g).map ap0))
def ev(env:Env):Operand->AV
 |.tmp t=>get env t
 |.const v=>aF3 v
 |.global g=>aq3 g
 |.func f=>.fn (.func f) [] []
theorem cH7{G:Gh}{H:List AObj}{w:World}(s:Nat):Rel G H w (.sl .full s []) (.slice none 0 0):=
 .sl .full s [] none 0 0 (fun _=>undef) rfl (xq0 _) (fun x hx=>by cases hx) (fun j x e=>by simp[aa2] at e) (fun j x e=>by simp[aa2] at e) (fun _=>rfl) (fun h=>absurd h (by omega)) (fun k e=>by cases e)
theorem aG5{G:Gh}{H:List AObj}{w:World}(v:Value):Rel G H w (ap0 v) v:=by
 unfold ap0;split
 ·rename_i s
  have:s=⟨s.data.toList.toArray⟩:=by simp
  rw[this];exact .str _
 ·exact cH7 0
 ·exact .lit _
theorem cA4{G:Gh}{H:List AObj}{w:World}(v:Value):Rel G H w (aF3 v) v:=by
 unfold aF3;split
 ·rename_i cs
  refine .agg _ _ (by simp) fun j x v e e'=>?_
  rw[xq7] at e;have:cs.toList[j]?=some v:=by simpa using e'
  rw[this] at e;cases e
  exact aG5 v
 ·exact aG5 v
structure Sat(n:Nat)(ds:List Deferred)(G:Gh)(env:Env)(H:List AObj)(a:Act)(w:World):Prop where
 size:a.tmps.size=n
 defers:a.defers=ds
 env: ∀t,Rel G H w (get env t) (a.tmps.getD t undef)
 inv:HInv G H w
def fw(ro:Option Nat):Fence:={Fence.wide with round:=ro}
theorem bZ7{ro:Option Nat}{N:Nat}{P:Program}{f:FuncId}{args:Array Value}{w:World}{R:Ending->World->Prop}(h:Calls P f args w R):CallsIn (fw ro) N P f args w R:=callsIn_wide.2 h
theorem Sat.ev{n:Nat}{G:Gh}{env:Env}{H:List AObj}{a:Act}{w:World}(h:Sat n ds G env H a w)(x:Operand):Rel G H w (V.ev env x) (a.eval x):=by
 cases x with
 |tmp t=>exact h.env t
 |const v=>exact cA4 v
 |global g=>
  show Rel G H w (aq3 g) _
  unfold aq3;split
  ·rename_i t ht
   obtain⟨h1,u,v,h2⟩:=h.inv.tabs.1.1.2.1 g t ht;refine .ip _ g 0 (fun _=>.iface u v) (fun j y e=>?_) (fun j y e=>?_)
   ·cases j with
    |zero=>exact⟨h1,h2⟩
    |succ j=>simp[AV.flat] at e
   ·cases j with
    |zero=>simp[AV.flat] at e;subst e;exact .err u v
    |succ j=>simp[AV.flat] at e
  split
  ·exact .lit _
  ·refine .ip _ g 0 (fun j=>((bi8 g)[j]?).getD undef) (fun j y e=>?_) (fun j y e=>?_)
   ·simp only[AV.flat,xq7,cN9] at e
    obtain⟨v,hv,_⟩:=e;have:=h.inv.tabs.1.1.1 g j v hv;rw[Nat.zero_add,hv];exact this
   ·simp only[AV.flat,xq7,cN9] at e
    obtain⟨v,hv,rfl⟩:=e;rw[hv];exact aG5 v
 |func f=>exact .fn _ [] [] #[] #[] rfl rfl (fun j x v e=>by simp at e) (fun j x v e=>by simp at e)
theorem bw8{vs:Array Value}{d t:Nat}{v:Value}(hd:d < vs.size):(vs.setIfInBounds d v).getD t undef=if d=t then v else vs.getD t undef:=by
 simp only[ap3,b31];by_cases h:d=t
 ·subst h;simp[hd]
 ·simp[h]
def put(d:Option Nat)(v:AV)(env:Env):Env:=
 match d with
 |some d=>(d,v)::env
 |none=>env
theorem Sat.put{n:Nat}{G G':Gh}{env:Env}{H H':List AObj}{a:Act}{w w':World}(h:Sat n ds G env H a w)(hs:Step G H w G' H' w')(hi:HInv G' H' w')
  {x:AV} {v:Value} (hr:Rel G' H' w' x v) {d:Option Nat} (hd: ∀t,d=some t->t < n):Sat n ds G' (V.put d x env) H' (a.put d v) w':=by
 cases d with
 |none=>exact⟨h.size,h.defers,fun t=>(h.env t).mono hs,hi⟩
 |some d=>
  have hdn:=hd d rfl;refine⟨by simp[Act.put,h.size],h.defers,fun t=>?_,hi⟩
  simp only[V.put,get,Act.put];rw[bw8 (by rw[h.size];exact hdn)]
  by_cases e:d=t
  ·simp only[e,if_true];exact hr
  ·simp only[e,if_false];exact(h.env t).mono hs
theorem Sat.step{n:Nat}{G G':Gh}{env:Env}{H H':List AObj}{a:Act}{w w':World}(h:Sat n ds G env H a w)(hs:Step G H w G' H' w')(hi:HInv G' H' w'):Sat n ds G' env H' a w':=
 ⟨h.size,h.defers,fun t=>(h.env t).mono hs,hi⟩
class Tag {α:Sort u} (a:α):Type where
instance {α:Sort u} (a:α):Tag a:={}
def aW6(a:Prop)[Tag a]:Prop:=a
theorem l9{a:Prop}(h:a):aW6 a:=h
theorem aZ1{a:Prop}:aW6 a=a:=rfl
attribute [irreducible] aW6
theorem aa8{p q:Prop}(h:p->q):p->q:=h
def Post(n:Nat)(ds:List Deferred)(G:Gh)(H:List AObj)(w:World)(Q:Exit->Env->List AObj->Prop):Exit->Act->World->Prop:=
 fun e a' w'=> ∃G' env' H',Sat n ds G' env' H' a' w'/\Step G H w G' H' w'/\Q e env' H'
def AW(P:Program)(n:Nat)(c:Code)(Q:Exit->Env->List AObj->Prop)(env:Env)(H:List AObj)[Tag c][Tag Q]:Prop:=
 ∀ro N ds G a w,Sat n ds G env H a w->c.wpIn (fw ro) N P (Post n ds G H w Q) a w
def Ex(next:Env->List AObj->Prop)(Q:Exit->Env->List AObj->Prop):Exit->Env->List AObj->Prop
 |.normal,env,H=>next env H
 |e,env,H=>Q e env H
def InB(id:Nat)(Q:Exit->Env->List AObj->Prop):Exit->Env->List AObj->Prop
 |.exit id',env,H=>if id'=id then Q .normal env H else Q (.exit id') env H
 |e,env,H=>Q e env H
section
variable {P:Program}{n:Nat}{Q:Exit->Env->List AObj->Prop}{env:Env}{H:List AObj}
theorem Post.trans{G G':Gh}{H H':List AObj}{w w':World}(hs:Step G H w G' H' w'){e:Exit}{a:Act}{w'':World}(h:Post n ds G' H' w' Q e a w''):Post n ds G H w Q e a w'':=
 let ⟨G'',env'',H'',s,st,q⟩:=h
 ⟨G'',env'',H'',s,hs.trans st,q⟩
theorem AW.mono{c:Code}{Q':Exit->Env->List AObj->Prop}(h:AW P n c Q env H)(hq: ∀e env H,Q e env H->Q' e env H):AW P n c Q' env H:=
 fun ro N ds G a w s=>wpIn_mono (h ro N ds G a w s) fun _ _ _ ⟨G',env',H',s',st,q⟩=>⟨G',env',H',s',st,hq _ _ _ q⟩
theorem dY6(h:Q .normal env H):AW P n .skip Q env H:=fun _ _ _ G _ _ s=>wpIn_skip ⟨G,env,H,s,.refl _ _ _,h⟩
theorem dY9{id:Nat}(h:Q (.exit id) env H):AW P n (.exit id) Q env H:=fun _ _ _ G _ _ s=>wpIn_exit ⟨G,env,H,s,.refl _ _ _,h⟩
theorem ee1(h:Q .ret env H):AW P n .ret Q env H:=fun _ _ _ G _ _ s=>wpIn_ret ⟨G,env,H,s,.refl _ _ _,h⟩
theorem bJ1{x y:Code}(h:AW P n x (Ex (fun env H=>AW P n y Q env H) Q) env H):AW P n (.seq x y) Q env H:=fun ro N ds G a w s=>by
 refine wpIn_seq (wpIn_mono (h ro N ds G a w s) fun e a' w' ⟨G',env',H',s',st,q⟩=>?_)
 cases e with
 |normal=>exact wpIn_mono (q ro N ds G' a' w' s') fun _ _ _ p=>p.trans st
 |_=>exact⟨G',env',H',s',st,q⟩
theorem dZ0{c:Operand}{x y:Code}{t:Bool}(hc:ev env c=.lit (.bool t))(ht:t=true->AW P n x Q env H)(hf:t=false->AW P n y Q env H):AW P n (.cond c x y) Q env H:=
 fun ro N ds G a w s=>by
  have r:=s.ev c;rw[hc] at r;generalize hv:a.eval c=v at r;cases r
  exact wpIn_cond_split hv (fun e=>ht e ro N ds G a w s) (fun e=>hf e ro N ds G a w s)
theorem dE5{id:Nat}{c:Code}(h:AW P n c (InB id Q) env H):AW P n (.block id c) Q env H:=fun ro N ds G a w s=>
 wpIn_block (wpIn_mono (h ro N ds G a w s) fun e a' w' ⟨G',env',H',s',st,q⟩=>by
  cases e with
  |exit id'=>
   simp only[Exit.inBlock];simp only[InB] at q;split<;>rename_i hid
   ·exact⟨G',env',H',s',st,by simpa [hid] using q⟩
   ·exact⟨G',env',H',s',st,by simpa [hid] using q⟩
  |_=>exact⟨G',env',H',s',st,q⟩)
theorem cO2{F:Fence}{N:Nat}{c:Code}{R:Exit->Act->World->Prop}(I:Nat->Act->World->Prop)
  (round: ∀m a w,I m a w->c.wpIn F N P (Exit.then (fun a' w'=> ∃m',m' < m/\I m' a' w') R) a w): ∀m a w,I m a w->(Code.loop c).wpIn F N P R a w:=by
 intro m a w h₀ b k cs hb hr hroom;have key: ∀m a w,I m a w-> ∃e a' w',R e a' w'/\ArrivesIn (Machine.fenced P F) P (lone (b.atR a (.code c::.inLoop c::k)) cs w) b k cs e a' w':=by
  intro m;induction m using Nat.strongRecOn with
  |_ m ih=>
   intro a w hI;obtain⟨e,a₁,w₁,hq,harr⟩:=round m a w hI b (.inLoop c::k) cs hb hr hroom;cases e with
   |normal=>
    obtain⟨m',hlt,hI₁⟩:=hq;obtain⟨e₂,a₂,w₂,hq₂,harr₂⟩:=ih m' hlt a₁ w₁ hI₁;exact⟨e₂,a₂,w₂,hq₂,.of_steps (StepsIn.trans harr (.one (fenced_calm hr hroom rfl) stepR_inLoop)) harr₂⟩
   |exit id=>exact⟨_,a₁,w₁,hq,.pass (x:=.inLoop c) rfl (fun _ _=>.inl (by simp)) harr⟩
   |goto l=>exact⟨_,a₁,w₁,hq,.pass (x:=.inLoop c) rfl (fun _ _=>.inl (by simp)) harr⟩
   |ret=>exact⟨_,a₁,w₁,hq,.pass (x:=.inLoop c) rfl (fun _ _=>.inl (by simp)) harr⟩
   |panic ch=>exact⟨_,a₁,w₁,hq,.pass (x:=.inLoop c) rfl (fun _ _=>.inl (by simp)) harr⟩
   |outgrown=>exact⟨_,a₁,w₁,hq,.pass (x:=.inLoop c) rfl (fun _ _=>.inl (by simp)) harr⟩
 obtain⟨e,a',w',hq,harr⟩:=key m a w h₀;exact⟨e,a',w',hq,.of_steps (.one (fenced_calm hr hroom rfl) stepR_loop) harr⟩
def Le(x y:AV):Prop:= ∀G H w v,Rel G H w x v->Rel G H w y v
theorem Le.refl(x:AV):Le x x:=fun _ _ _ _ h=>h
theorem Le.any(x:AV):Le x .any:=fun _ _ _ v _=>.any v
end
theorem cm8{P:Program}{o:Oper}{ρ:Operand->Value}{w w':World}{r:Next}(h:(execOp ρ o).run P w=.ok r w')(hr: ∀d,r≠ .defer d): ∀c,o.op≠ .defer c:=fun c e=>by
 unfold execOp at h;rw[e] at h;simp only[Sem.run_bind] at h;cases hh:(resolve ρ c o.type).run P w with
 |ok d w1=>
  rw[hh] at h;simp[Result.andThen] at h
  exact hr _ h.1.symm
 |halt x w1=>
  rw[hh] at h;simp[Result.andThen] at h
def AOp(P:Program)(o:Oper)(env:Env)(H:List AObj)(K:AV->List AObj->Prop):Prop:=
 ∀ro N (Q:Exit->Act->World->Prop) n ds G a w,Sat n ds G env H a w->
  o.wpIn (fw ro) N P a w (fun a' w'=> ∃v x G' H',a'=a.put o.dst v/\HInv G' H' w'/\Step G H w G' H' w'/\Rel G' H' w' x v/\K x H') Q
theorem AOp.of_run{P:Program}{o:Oper}{env:Env}{H:List AObj}{K:AV->List AObj->Prop}
  (h: ∀n ds G a w,Sat n ds G env H a w-> ∃v w' x G' H',(execOp a.eval o).run P w=.ok (.value v) w'/\HInv G' H' w'/\Step G H w G' H' w'/\Rel G' H' w' x v/\K x H'):AOp P o env H K:=by
 intro ro N Q n ds G a w s;obtain⟨v,w',x,G',H',hr,hi,hs,hx,hk⟩:=h n ds G a w s;refine⟨fun _ _=>trivial,?_⟩
 rw[Oper.semAt_eq _ _ _ (cm8 hr (fun d e=>by cases e)),hr]
 exact⟨v,x,G',H',rfl,hi,hs,hx,hk⟩
theorem AOp.of_skip{P:Program}{o:Oper}{env:Env}{H:List AObj}{K:AV->List AObj->Prop}
  (h: ∀n ds G a w,Sat n ds G env H a w-> ∃w' G' H',(execOp a.eval o).run P w=.ok .skip w'/\HInv G' H' w'/\Step G H w G' H' w'/\K .any H'):AOp P o env H K:=by
 intro ro N Q n ds G a w s;obtain⟨w',G',H',hr,hi,hs,hk⟩:=h n ds G a w s;refine⟨fun _ _=>trivial,?_⟩
 rw[Oper.semAt_eq _ _ _ (cm8 hr (fun d e=>by cases e)),hr]
 exact⟨undef,.any,G',H',rfl,hi,hs,.any _,hk⟩
def ax2(G:Gh)(H:List AObj)(w:World)(xs:List AV)(vs:Array Value):Prop:=
 vs.size=xs.length/\ ∀(j:Nat) (x:AV) (v:Value),xs[j]?=some x->vs[j]?=some v->Rel G H w x v
def bf6(P:Program)(f:FuncId)(vs:Array Value)(w:World)(Q:Value->World->Prop):Prop:=
 (∃fn,P.funcs[f]?=some fn/\fn.body.isSome=true/\(fn.name== "runtime.NumGoroutine")=false/\Calls P f vs w fun e w'=> ∃v,e=.returned v/\Q v w')\/
 (∃v w',(callFunc f vs).run P w=.ok (.value v) w'/\Q v w')
theorem bf6.mono{P:Program}{f:FuncId}{vs:Array Value}{w:World}{Q Q':Value->World->Prop}(h:bf6 P f vs w Q)(hq: ∀v w',Q v w'->Q' v w'):bf6 P f vs w Q':=by
 rcases h with⟨fn,h1,h2,h3,h4⟩|⟨v,w',h1,h2⟩
 ·exact .inl ⟨fn,h1,h2,h3,h4.mono fun _ _ ⟨v,e,q⟩=>⟨v,e,hq _ _ q⟩⟩
 ·exact .inr ⟨v,w',h1,hq _ _ h2⟩
theorem bf6.calls{P:Program}{f:FuncId}{vs:Array Value}{w:World}{Q:Value->World->Prop}{fn:Func}(hf:P.funcs[f]?=some fn)(hb:fn.body.isSome=true)(hn:(fn.name== "runtime.NumGoroutine")=false)(h:bf6 P f vs w Q):Calls P f vs w fun e w'=> ∃v,e=.returned v/\Q v w':=by
 rcases h with⟨_,_,_,_,h4⟩|⟨v,w',h1,h2⟩
 ·exact h4
 ·exfalso
  have hb':fn.body≠none:=by intro e;rw[e] at hb;cases hb
  have hn':fn.name≠ "runtime.NumGoroutine" :=by simpa using hn
  simp[callFunc,hf,hb',hn'] at h1
def aF9(P:Program)(k:Nat)(args:List AV)(H:List AObj)(R:AV->List AObj->Prop)[Tag R]:Prop:=
 ∀ro N G w vs l,HInv G H w->ax2 G H w args vs->G.lp k=some l->
  YieldAt (fw ro) N P l vs w fun e w'=> ∃v x G' H',e=.returned v/\HInv G' H' w'/\Step G H w G' H' w'/\Rel G' H' w' x v/\R x H'
def o7(P:Program)(f:FuncId)(args:List AV)(H:List AObj)(R:AV->List AObj->Prop)[Tag R]:Prop:=
 ∀G w vs,HInv G H w->ax2 G H w args vs->bf6 P f vs w fun v w'=> ∃x G' H',HInv G' H' w'/\Step G H w G' H' w'/\Rel G' H' w' x v/\R x H'
theorem o7.mono{P:Program}{f:FuncId}{args:List AV}{H:List AObj}{R R':AV->List AObj->Prop}(h:o7 P f args H R)(hr: ∀x H',R x H'->R' x H'):o7 P f args H R':=
 fun G w vs hi ha=>(h G w vs hi ha).mono fun _ _ ⟨x,G',H',hi',hs,hx,r⟩=>⟨x,G',H',hi',hs,hx,hr _ _ r⟩
theorem o7.weak{P:Program}{f:FuncId}{args args':List AV}{H:List AObj}{R:AV->List AObj->Prop}(h:o7 P f args' H R)(hl:args'.length=args.length)
  (hw: ∀(j:Nat) (x y:AV),args[j]?=some x->args'[j]?=some y->Le x y):o7 P f args H R:=
 fun G w vs hi ha=>h G w vs hi ⟨ha.1.trans hl.symm,fun j y v ey ev=>by
  have hj:j < args.length:=by rw[<-hl];exact aa0 ey
  exact hw j args[j] y (xq1 hj) ey G H w v (ha.2 j _ v (xq1 hj) ev)⟩
end V
end
section
namespace V
open Go
inductive CK where
 |int|bool|str
def bE3(P:Program)(g:TypeId->Option (List CK)):Nat->List Field->Option (List CK)
 |_,[]=>some []
 |off,f::r=>match g f.type with
  |none=>none
  |some a=>if f.name≠ "_" /\f.offset=off/\a.length≠0/\(P.info? f.type).map (·.size)=some a.length then(bE3 P g (off+a.length) r).map (a++ ·) else none
def ck(P:Program):Nat->TypeId->Option (List CK)
 |0,_=>none
 |d+1,t=>match P.underlying t with
  |some (.int _)=>some [.int]
  |some .bool=>some [.bool]
  |some .string=>some [.str]
  |some (.struct fs)=>if P.stoodInHeld t=true then none else bE3 P (ck P d) 0 fs.toList
  |_=>none
def bP1:CK->Value->Value->Option Bool
 |.int,.int k a,.int k' b=>if k=k' then some (decide (a=b)) else none
 |.bool,.bool a,.bool b=>some (decide (a=b))
 |.str,.string a,.string b=>some (decide (a=b))
 |_,_,_=>none
def az4:List CK->List Value->List Value->Option Bool
 |[],[],[]=>some true
 |k::ks,x::xs,y::ys=>match bP1 k x y with
  |some a=>(az4 ks xs ys).map (a&& ·)
  |none=>none
 |_,_,_=>none
theorem aS7{α:Type}[BEq α][LawfulBEq α][DecidableEq α](a b:α):(a==b)=decide (a=b):=by by_cases h:a=b<;>simp[h]
theorem bx7: ∀{ks:List CK} {xs ys:List Value} {r:Bool},az4 ks xs ys=some r->xs.length=ks.length/\ys.length=ks.length
 |[],[],[],_,_=>⟨rfl,rfl⟩
 |k::ks,x::xs,y::ys,r,h=>by
  unfold az4 at h;split at h
  ·cases h2:az4 ks xs ys with
   |none=>rw[h2] at h;cases h
   |some q=>have:=bx7 h2;simp[this.1,this.2]
  ·cases h
 |[],_::_,_,_,h=>by simp[az4] at h
 |[],[],_::_,_,h=>by simp[az4] at h
 |_::_,[],_,_,h=>by simp[az4] at h
 |_::_,_::_,[],_,h=>by simp[az4] at h
theorem bZ2: ∀{a b:List CK} {xs ys:List Value} {r:Bool},az4 (a++b) xs ys=some r-> ∃r1 r2,az4 a (xs.take a.length) (ys.take a.length)=some r1/\az4 b (xs.drop a.length) (ys.drop a.length)=some r2/\r=(r1&&r2)
 |[],b,xs,ys,r,h=>⟨true,r,by simp[az4],h,by simp⟩
 |k::a,b,[],ys,r,h=>by simp[az4] at h
 |k::a,b,x::xs,[],r,h=>by simp[az4] at h
 |k::a,b,x::xs,y::ys,r,h=>by
  rw[List.cons_append] at h;unfold az4 at h;split at h
  ·rename_i q hq
   cases h2:az4 (a++b) xs ys with
   |none=>rw[h2] at h;cases h
   |some z=>
    rw[h2] at h;cases h
    obtain⟨r1,r2,e1,e2,rfl⟩:=bZ2 h2;exact⟨q&&r1,r2,by simp[az4,hq,e1],by simpa using e2,by rw[Bool.and_assoc]⟩
  ·cases h
def mkT(P:Program)(t:TypeId)(xs:List Value):Value:=
 match P.underlying t with
 |some (.struct _)=>.agg xs.toArray
 |_=>xs.headD undef
theorem cK9{P:Program}(w:World){d:Nat}{t:TypeId}{ks:List CK}{arr:Array Value}{off:Nat}(h:ck P d t=some ks)(hs:(P.info? t).map (·.size)=some ks.length)(hl:off+ks.length<=arr.size):(part t arr off).run P w=.ok (mkT P t ((arr.toList.drop off).take ks.length)) w:=by
 cases d with
 |zero=>cases h
 |succ d=>
  obtain⟨i,hi,hsz⟩: ∃i,P.info? t=some i/\i.size=ks.length:=by
   cases hi:P.info? t with
   |none=>rw[hi] at hs;cases hs
   |some i=>rw[hi] at hs;exact⟨i,rfl,Option.some.inj hs⟩
  have one:P.plainKey t=true->ks.length=1->(match P.underlying t with|some (.struct _)=>false|_=>true)=true->(part t arr off).run P w=.ok (mkT P t ((arr.toList.drop off).take ks.length)) w:=fun hp h1 hu=>by
   have hx:arr[off]?=some (arr[off]'(by omega)):=xq2 _
   rw[run_part_plain w hp hx];have:(arr.toList.drop off).take ks.length=[arr[off]'(by omega)]:=by
    rw[h1,aL3 (by simpa using (by omega:off < arr.size))]
    simp
   rw[this];unfold mkT;split at hu
   ·cases hu
   ·rfl
  unfold ck at h;split at h
  ·rename_i k hu;cases h;exact one (by simp[Program.plainKey,hu]) rfl (by simp[hu])
  ·rename_i hu;cases h;exact one (by simp[Program.plainKey,hu]) rfl (by simp[hu])
  ·rename_i hu;cases h;exact one (by simp[Program.plainKey,hu]) rfl (by simp[hu])
  ·rename_i fs hu
   have:mkT P t ((arr.toList.drop off).take ks.length)=.agg (arr.extract off (off+ks.length)):=by
    unfold mkT;rw[hu];simp only;congr 1
    apply Array.toList_inj.1
    rw[Array.toList_extract];simp[List.extract]
   rw[this];simp[part,isAgg,run_underlying hu,run_sizeOf w hi,hsz,Program.cellsOf,hi]
  ·cases h
theorem b98{P:Program}(w:World){g:TypeId->Option (List CK)}{D:Nat}(hp: ∀t ks,g t=some ks-> ∃d,ck P d t=some ks)
  (hg: ∀t ks xs ys r,g t=some ks->az4 ks xs ys=some r->(Op.equalIn D t (mkT P t xs) (mkT P t ys)).run P w=.ok r w) (xs ys:Array Value):
  ∀(fs:List Field) (off:Nat) (ks:List CK) (r:Bool),bE3 P g off fs=some ks->az4 ks (xs.toList.drop off) (ys.toList.drop off)=some r->(Op.eqFields D xs ys fs).run P w=.ok r w
 |[],off,ks,r,h,he=>by
  cases h
  have h2:=bx7 he;obtain⟨e1,e2⟩:=h2;rw[aB0 e1,aB0 e2] at he;cases he
  simp[Op.eqFields]
 |f::fs,off,ks,r,h,he=>by
  unfold bE3 at h;split at h
  ·cases h
  ·rename_i a ha
   split at h
   ·rename_i hc
    obtain⟨h1,h2,h3⟩:=hc;cases hb:bE3 P g (off+a.length) fs with
    |none=>rw[hb] at h;cases h
    |some b=>
     rw[hb] at h;cases h
     obtain⟨l1,l2⟩:=bx7 he;simp only[List.length_drop,List.length_append,bR9] at l1 l2;obtain⟨r1,r2,e1,e2,rfl⟩:=bZ2 he;rw[List.drop_drop,List.drop_drop] at e2;obtain⟨d,hd⟩:=hp _ _ ha;have p1:=cK9 w (arr:=xs) (off:=off) hd h3.2 (by omega)
     have p2:=cK9 w (arr:=ys) (off:=off) hd h3.2 (by omega)
     have q1:=hg _ _ _ _ _ ha e1;have q2:=b98 w hp hg xs ys fs (off+a.length) b r2 hb e2;simp only[Op.eqFields,h1,ne_eq,not_false_eq_true,if_true,Sem.run_bind,h2,p1,p2,q1,Result.andThen_ok];cases r1
     ·simp
     ·simpa using q2
   ·cases h
theorem b60{k:CK}{xs ys:List Value}{r:Bool}(h:az4 [k] xs ys=some r): ∃x y,xs=[x]/\ys=[y]/\bP1 k x y=some r:=by
 obtain⟨l1,l2⟩:=bx7 h;match xs,ys,l1,l2 with
 |[x],[y],_,_=>
  refine⟨x,y,rfl,rfl,?_⟩;unfold az4 at h;split at h
  ·rename_i a ha
   simp only[az4,Option.map_some,Option.some.injEq,Bool.and_true] at h;rw[ha,h]
  ·cases h
theorem dj1{P:Program}: ∀(d:Nat) (t:TypeId) (ks:List CK) (xs ys:List Value) (r:Bool) (j:Nat) (w:World),ck P d t=some ks->az4 ks xs ys=some r->(Op.equalIn (d+j) t (mkT P t xs) (mkT P t ys)).run P w=.ok r w
 |0,_,_,_,_,_,_,_,h,_=>by cases h
 |d+1,t,ks,xs,ys,r,j,w,h,he=>by
  rw[show d+1+j=(d+j)+1 by omega]
  unfold ck at h;split at h
  ·rename_i k hu
   cases h
   obtain⟨x,y,rfl,rfl,h1⟩:=b60 he;unfold bP1 at h1;split at h1
   ·split at h1
    ·rename_i hk
     subst hk;cases h1
     simp only[mkT,hu,bL9];rw[run_equalIn_int w _ _ _ _ _ _ hu,aS7]
    ·cases h1
   all_goals simp_all
  ·rename_i hu
   cases h
   obtain⟨x,y,rfl,rfl,h1⟩:=b60 he;unfold bP1 at h1;split at h1
   ·simp_all
   ·cases h1
    simp only[mkT,hu,bL9];rw[run_equalIn_bool w _ _ _ _ hu,aS7]
   all_goals simp_all
  ·rename_i hu
   cases h
   obtain⟨x,y,rfl,rfl,h1⟩:=b60 he;unfold bP1 at h1;split at h1
   ·simp_all
   ·simp_all
   ·rename_i a b _
    cases h1
    simp only[mkT,hu,bL9];rw[run_equalIn_string w _ _ _ _ hu,aS7,ByteArray.toList_eq,ByteArray.toList_eq];congr 1
    refine decide_eq_decide.2 ⟨fun e=>?_,fun e=>by rw[e]⟩
    apply ByteArray.ext
    exact Array.toList_inj.1 e
   ·cases h1
  ·rename_i fs hu
   split at h
   ·cases h
   ·rename_i hst
    have hf:P.fieldsOf t=fs:=by simp[Program.fieldsOf,hu]
    have hm: ∀zs,mkT P t zs=.agg zs.toArray:=fun zs=>by simp[mkT,hu]
    rw[hm,hm,run_equalIn_struct w (d+j) t _ _ (by rw[hf];exact hu) (by simpa using hst),hf]
    refine b98 w (fun t ks h=>⟨d,h⟩) (fun t ks xs ys r h he=>dj1 d t ks xs ys r j w h he) _ _ fs.toList 0 ks r h ?_
    simpa using he
  ·cases h
theorem dj2{P:Program}{g:TypeId->Option (List CK)}{q:TypeId->Bool}(hq: ∀t ks,g t=some ks->q t=false): ∀(fs:List Field) (off:Nat) (ks:List CK),bE3 P g off fs=some ks->(fs.any fun f=>f.name != "_" &&q f.type)=false
 |[],_,_,_=>rfl
 |f::fs,off,ks,h=>by
  unfold bE3 at h;split at h
  ·cases h
  ·rename_i a ha
   split at h
   ·cases hb:bE3 P g (off+a.length) fs with
    |none=>rw[hb] at h;cases h
    |some b=>rw[List.any_cons,hq _ _ ha,dj2 hq fs _ b hb];simp
   ·cases h
theorem cw6{P:Program}: ∀(d:Nat) (t:TypeId) (ks:List CK) (j:Nat),ck P d t=some ks->P.eqGuardType (d+j) t=false
 |0,_,_,_,h=>by cases h
 |d+1,t,ks,j,h=>by
  rw[show d+1+j=(d+j)+1 by omega]
  unfold ck at h;unfold Program.eqGuardType;split at h
  ·rename_i hu;simp[hu]
  ·rename_i hu;simp[hu]
  ·rename_i hu;simp[hu]
  ·rename_i fs hu
   split at h
   ·cases h
   ·simp only[hu]
    rw[<-Array.any_toList];exact dj2 (fun t ks h=>cw6 d t ks j h) fs.toList 0 ks h
  ·cases h
def cW8:CK->AV->AV->Option Bool
 |.int,.lit (.int k a),.lit (.int k' b)=>if k=k' then some (decide (a=b)) else none
 |.bool,.lit (.bool a),.lit (.bool b)=>some (decide (a=b))
 |.str,.str a,.str b=>some (decide (a=b))
 |_,_,_=>none
def bp5:List CK->List AV->List AV->Option Bool
 |[],[],[]=>some true
 |k::ks,x::xs,y::ys=>match cW8 k x y with
  |some a=>(bp5 ks xs ys).map (a&& ·)
  |none=>none
 |_,_,_=>none
theorem eb5{k:CK}{x y:AV}{r:Bool}{G:Gh}{H:List AObj}{w:World}{u v:Value}(h:cW8 k x y=some r)(hx:Rel G H w x u)(hy:Rel G H w y v):bP1 k u v=some r:=by
 unfold cW8 at h;split at h
 ·cases hx;cases hy;exact h
 ·cases hx;cases hy;exact h
 ·cases h
  cases hx;cases hy
  unfold bP1;simp only;congr 1
  refine decide_eq_decide.2 ⟨fun e=>?_,fun e=>by rw[e]⟩
  have:=congrArg ByteArray.data e;exact List.toArray_inj this
 ·cases h
theorem dh9{G:Gh}{H:List AObj}{w:World}: ∀{ks:List CK} {xs ys:List AV} {us vs:List Value} {r:Bool},bp5 ks xs ys=some r->us.length=xs.length->vs.length=ys.length->
  (∀(j:Nat) (x:AV) (v:Value),xs[j]?=some x->us[j]?=some v->Rel G H w x v)->(∀(j:Nat) (x:AV) (v:Value),ys[j]?=some x->vs[j]?=some v->Rel G H w x v)->az4 ks us vs=some r
 |[],[],[],us,vs,r,h,h1,h2,_,_=>by
  rw[aB0 h1,aB0 h2];exact h
 |k::ks,x::xs,y::ys,us,vs,r,h,h1,h2,hx,hy=>by
  match us,vs,h1,h2 with
  |u::us,v::vs,h1,h2=>
   unfold bp5 at h;split at h
   ·rename_i a ha
    cases hb:bp5 ks xs ys with
    |none=>rw[hb] at h;cases h
    |some b=>
     rw[hb] at h;cases h
     have e1:=eb5 ha (hx 0 x u rfl rfl) (hy 0 y v rfl rfl);have e2:=dh9 hb (by simpa using h1) (by simpa using h2) (fun j x v a b=>hx (j+1) x v a b) (fun j x v a b=>hy (j+1) x v a b)
     simp[az4,e1,e2]
   ·cases h
 |[],_::_,_,_,_,_,h,_,_,_,_=>by simp[bp5] at h
 |[],[],_::_,_,_,_,h,_,_,_,_=>by simp[bp5] at h
 |_::_,[],_,_,_,_,h,_,_,_,_=>by simp[bp5] at h
 |_::_,_::_,[],_,_,_,h,_,_,_,_=>by simp[bp5] at h
end V
end
section
namespace V
open Go
variable {ds:List Deferred}
inductive TK where
 |other|one|bool|int (k:IntKind)|str|slice (e:TypeId)|arr (n:Nat) (e:TypeId)|struct (fs:List (Nat×TypeId))|ptr (e:TypeId)|iface|map (k e:TypeId)|uptr
structure LT where
 k:TK
 size:Nat
 bytes:Nat
 zero:List AV
def TK.agg:TK->Bool
 |.arr _ _|.struct _=>true
 |_=>false
def ao0(P:Program)(t:TypeId):TK->Prop
 |.other=>False
 |.one=> ∃d,P.underlying t=some d/\(match d with|.struct _|.array _ _=>true|_=>false)=false
 |.bool=>P.underlying t=some .bool
 |.int k=>P.underlying t=some (.int k)
 |.str=>P.underlying t=some .string
 |.slice e=>P.underlying t=some (.slice e)
 |.arr n e=>P.underlying t=some (.array n e)
 |.struct fs=> ∃a,P.underlying t=some (.struct a)/\a.toList.map (fun f=>(f.offset,f.type))=fs
 |.ptr e=>P.underlying t=some (.pointer e)
 |.iface=> ∃ms,P.underlying t=some (.interface ms)
 |.map k e=>P.underlying t=some (.map k e)
 |.uptr=>P.underlying t=some .unsafePointer
def TK.isInt:TK->Bool
 |.int _=>true
 |_=>false
def ef9(P:Program)(t:TypeId)(x:LT):Prop:=
 ao0 P t x.k/\ ∃i z,P.info? t=some i/\i.size=x.size/\i.bytes=x.bytes/\x.zero.length=x.size/\i.zero=some z/\z.cells.toList.map ap0=x.zero/\(x.k.agg=true->z=.agg z.cells)/\(x.k.isInt=true->i.comparable=true)/\(x.k.agg=false->z.cells= #[z])
abbrev Tab:=TypeId->LT
def ac7(P:Program)(L:Tab):Prop:= ∀t,(L t).k≠ .other->ef9 P t (L t)
def cv8:Value->AV->Bool
 |.int k n,.lit (.int k' n')=>decide (k=k')&&decide (n=n')
 |.bool a,.lit (.bool b)=>a==b
 |.string s,.str l=>s.data.toList==l
 |.slice none 0 0,.sl .full 0 []=>true
 |.pointer none,.lit (.pointer none)=>true
 |.map none,.lit (.map none)=>true
 |.nilFunc,.lit .nilFunc=>true
 |.nilIface,.lit .nilIface=>true
 |_,_=>false
theorem dh8{v:Value}{x:AV}(h:cv8 v x=true):ap0 v=x:=by
 unfold cv8 at h;split at h<;>simp_all [ap0]
def bf4:List Value->List AV->Bool
 |[],[]=>true
 |v::vs,x::xs=>cv8 v x&&bf4 vs xs
 |_,_=>false
theorem bZ3: ∀{vs:List Value} {xs:List AV},bf4 vs xs=true->vs.map ap0=xs
 |[],[],_=>rfl
 |[],_::_,h=>by simp[bf4] at h
 |_::_,[],h=>by simp[bf4] at h
 |v::vs,x::xs,h=>by
  simp only[bf4,xq3] at h;simp[dh8 h.1,bZ3 h.2]
def dC4(P:Program)(t:TypeId)(k:TK):Bool:=
 match k,P.underlying t with
 |.one,some d=>!(match d with|.struct _|.array _ _=>true|_=>false)
 |.bool,some .bool=>true
 |.int k,some (.int k')=>decide (k=k')
 |.str,some .string=>true
 |.slice e,some (.slice e')=>decide (e=e')
 |.arr n e,some (.array n' e')=>decide (n=n')&&decide (e=e')
 |.struct fs,some (.struct a)=>decide (a.toList.map (fun f=>(f.offset,f.type))=fs)
 |.ptr e,some (.pointer e')=>decide (e=e')
 |.iface,some (.interface _)=>true
 |.map k e,some (.map k' e')=>decide (k=k')&&decide (e=e')
 |.uptr,some .unsafePointer=>true
 |_,_=>false
def df0:Value->Bool
 |.agg _=>true
 |_=>false
def cY0(P:Program)(t:TypeId)(x:LT):Bool:=
 match x.k with
 |.other=>true
 |_=>dC4 P t x.k&&(match P.info? t with
  |some i=>decide (i.size=x.size)&&decide (i.bytes=x.bytes)&&decide (x.zero.length=x.size)&&(!x.k.isInt||i.comparable)&&(match i.zero with
   |some z=>bf4 z.cells.toList x.zero&&(x.k.agg==df0 z)
   |none=>false)
  |none=>false)
theorem dX5{P:Program}{t:TypeId}{k:TK}(h:dC4 P t k=true):ao0 P t k:=by
 unfold dC4 at h;split at h<;>simp_all [ao0]
theorem dX4{P:Program}{t:TypeId}{x:LT}(h:cY0 P t x=true)(hx:x.k≠ .other):ef9 P t x:=by
 unfold cY0 at h;split at h
 ·rename_i e;exact absurd e hx
 ·simp only[xq3] at h
  obtain⟨h1,h2⟩:=h;split at h2
  ·rename_i i hi
   simp only[xq3,decide_eq_true_eq] at h2;obtain⟨⟨⟨⟨ha,hb⟩,hc⟩,hcm⟩,h3⟩:=h2;split at h3
   ·rename_i z hz
    simp only[xq3,bz9] at h3;have h4:x.k.agg=df0 z:=by simpa using h3.2
    refine⟨dX5 h1,i,z,hi,ha,hb,hc,hz,bZ3 h3.1,fun hg=>?_,fun hg=>by simpa [hg] using hcm,fun hg=>?_⟩
    ·rw[hg] at h4
     cases z<;>first|rfl|cases h4
    ·rw[hg] at h4
     cases z<;>first|rfl|cases h4
   ·cases h3
  ·cases h2
def ac9:LT:=⟨.other,0,0,[]⟩
def cP3(l:List LT):Tab:=fun t=>(l[t]?).getD ac9
def bZ6(P:Program):Nat->List LT->Bool
 |_,[]=>true
 |t,x::r=>cY0 P t x&&bZ6 P (t+1) r
theorem bZ5{P:Program}: ∀{l:List LT} {s:Nat},bZ6 P s l=true-> ∀i x,l[i]?=some x->cY0 P (s+i) x=true
 |[],_,_,i,x,e=>by simp at e
 |y::r,s,h,i,x,e=>by
  simp only[bZ6,xq3] at h;cases i with
  |zero=>simp at e;subst e;exact h.1
  |succ i=>have:=bZ5 h.2 i x (by simpa using e);rwa [show s+1+i=s+(i+1) by omega] at this
theorem dn9{P:Program}{l:List LT}(h:bZ6 P 0 l=true):ac7 P (cP3 l):=by
 intro t ht;unfold cP3 at ht⊢;cases e:l[t]? with
 |none=>rw[e] at ht;exact absurd rfl ht
 |some x=>
  have:=bZ5 h t x e;rw[Nat.zero_add] at this;rw[e] at ht;exact dX4 this ht
def Still(P:Program)(o:Oper)(env:Env)(H:List AObj)(p:Prop)(x:AV):Prop:=
 p-> ∀n ds G a w,Sat n ds G env H a w-> ∃v,(execOp a.eval o).run P w=.ok (.value v) w/\Rel G H w x v
def Quiet(P:Program)(o:Oper)(env:Env)(H:List AObj)(p:Prop)(x:AV):Prop:=
 p-> ∀n ds G a w,Sat n ds G env H a w-> ∃v w' G',(execOp a.eval o).run P w=.ok (.value v) w'/\HInv G' H w'/\Step G H w G' H w'/\Rel G' H w' x v
section
variable {P:Program}{env:Env}{H:List AObj}{dst:Option Tmp}{ty:TypeId}{pos:String}{after:Array Edge}{guard:Option (Nat×Bool)}
theorem cP6{x:Operand}:Still P ⟨dst,.move x,ty,pos,after,guard⟩ env H True (ev env x):=fun _ _ _ _ a _ s=>⟨a.eval x,rfl,s.ev x⟩
theorem ck4{x:Operand}:Still P ⟨dst,.assign x,ty,pos,after,guard⟩ env H True (ev env x):=fun _ _ _ _ a _ s=>⟨a.eval x,rfl,s.ev x⟩
theorem ac0{G:Gh}{w:World}{v v':Value}(h:Rel G H w (.lit v) v'):v'=v:=by cases h;rfl
theorem ak9{G:Gh}{w:World}{l:List UInt8}{v:Value}(h:Rel G H w (.str l) v):v=.string ⟨l.toArray⟩:=by cases h;rfl
theorem cP5{c a b:Operand}{t:Bool}(hc:ev env c=.lit (.bool t)):Still P ⟨dst,.pick c a b,ty,pos,after,guard⟩ env H True (if t then ev env a else ev env b):=
 fun _ _ _ _ ac w s=>by
  have e:=ac0 (hc▸s.ev c);refine⟨if t then ac.eval a else ac.eval b,?_,?_⟩
  ·cases t<;>simp[execOp,e,asBool]
  ·cases t
   ·exact s.ev b
   ·exact s.ev a
def bY2(op:BinOp)(k:IntKind)(a b:Int):Option (Prop×AV):=
 match op with
 |.add=>some (True,.int k (k.wrap (a+b)))
 |.sub=>some (True,.int k (k.wrap (a - b)))
 |.mul=>some (True,.int k (k.wrap (a*b)))
 |.quo=>some (b≠0,.int k (k.wrap (a.tdiv b)))
 |.rem=>some (b≠0,.int k (a.tmod b))
 |.and=>some (True,.int k (k.wrap (BitVec.ofInt k.bits a&&&BitVec.ofInt k.bits b).toNat))
 |.or=>some (True,.int k (k.wrap (BitVec.ofInt k.bits a|||BitVec.ofInt k.bits b).toNat))
 |.xor=>some (True,.int k (k.wrap (BitVec.ofInt k.bits a^^^BitVec.ofInt k.bits b).toNat))
 |.andNot=>some (True,.int k (k.wrap (BitVec.ofInt k.bits a&&& ~~~BitVec.ofInt k.bits b).toNat))
 |.eql=>some (True,.bool (decide (a=b)))
 |.neq=>some (True,.bool (decide (a≠b)))
 |.lss=>some (True,.bool (decide (a < b)))
 |.leq=>some (True,.bool (decide (a<=b)))
 |.gtr=>some (True,.bool (decide (b < a)))
 |.geq=>some (True,.bool (decide (b<=a)))
 |_=>none
def bw6(op:BinOp)(k:IntKind)(a b:Int):Option (Prop×AV):=
 match op with
 |.shl=>some (0<=b,.int k (k.wrap (a*2^(min b.toNat k.bits))))
 |.shr=>some (0<=b,.int k (a.fdiv (2^(min b.toNat k.bits))))
 |_=>none
def cJ7:BinOp->Bool
 |.shl|.shr=>true
 |_=>false
def bT2(op:BinOp)(a b:List UInt8):Option (Prop×AV):=
 match op with
 |.add=>some (a.length+b.length<=9223372036854775807,.str (a++b))
 |.eql=>some (True,.bool (decide (a=b)))
 |.neq=>some (True,.bool (decide (a≠b)))
 |.lss=>some (True,.bool (Op.bytesLess a b))
 |.leq=>some (True,.bool (Op.bytesLess a b||decide (a=b)))
 |.gtr=>some (True,.bool !(Op.bytesLess a b||decide (a=b)))
 |.geq=>some (True,.bool !(Op.bytesLess a b))
 |_=>none
def bI9(op:BinOp)(a b:Bool):Option (Prop×AV):=
 match op with
 |.eql=>some (True,.bool (decide (a=b)))
 |.neq=>some (True,.bool (decide (a≠b)))
 |_=>none
def aI6(op:BinOp)(b:Bool):Option (Prop×AV):=
 match op with
 |.eql=>some (True,.bool b)
 |.neq=>some (True,.bool !b)
 |_=>none
def known(l:LT):Bool:=match l.k with|.other=>false|_=>true
theorem aj7{l:LT}(h:known l=true):l.k≠ .other:=by intro e;simp[known,e] at h
def isConst:Operand->Bool
 |.const _=>true
 |_=>false
def intOf:AV->Int
 |.lit (.int _ n)=>n
 |_=>0
def bs5(k:IntKind)(xs:List AV):Prop:=xs=xs.map fun x=>.lit (.int k (intOf x))
def bF1(op:BinOp)(p:Prop)(b:Bool):Option (Prop×AV):=
 match op with
 |.eql=>some (p,.bool b)
 |.neq=>some (p,.bool !b)
 |_=>none
def bB6(P:Program)(L:Tab)(op:BinOp)(t:TypeId)(y:Bool):AV->AV->Option (Prop×AV)
 |.lit (.int k a),.lit (.int k' b)=>if cJ7 op then bw6 op k a b else if k=k' then bY2 op k a b else none
 |.str a,.str b=>bT2 op a b
 |.lit (.bool a),.lit (.bool b)=>match(L t).k with|.bool=>bI9 op a b|_=>none
 |.mp _ _,.lit (.pointer none)=>match(L t).k with|.ptr _=>aI6 op false|_=>none
 |.lit (.pointer none),.lit (.pointer none)=>match(L t).k with|.ptr _=>aI6 op true|_=>none
 |.mp k o,.mp k' o'=>match(L t).k with|.ptr e=>if k=k'/\o=o'/\known (L e)=true then aI6 op true else none|_=>none
 |.ifc _ _,.lit .nilIface=>match(L t).k with|.iface=>aI6 op false|_=>none
 |.lit .nilIface,.lit .nilIface=>match(L t).k,y with|.iface,true=>aI6 op true|_,_=>none
 |.ifc t1 x1,.ifc t2 x2=>match(L t).k with
  |.iface=>if t1=t2 then(match(L t1).k,x1,x2 with
   |.int _,.lit (.int k a),.lit (.int k' b)=>if k=k' then aI6 op (decide (a=b)) else none
   |_,_,_=>none) else aI6 op false
  |_=>none
 |.agg xs,.agg ys=>match(L t).k with
  |.arr n e=>match(L e).k with
   |.int k=>bF1 op ((L e).size=1/\bs5 k xs/\bs5 k ys/\xs.length=n/\ys.length=n) (decide (xs.map intOf=ys.map intOf))
   |_=>none
  |.struct _=>match ck P 4 t with
   |some ks=>match bp5 ks xs ys with
    |some r=>bF1 op True r
    |none=>none
   |none=>none
  |_=>none
 |_,_=>none
theorem ag2(w:World)(op:BinOp)(t:TypeId)(x y:Operand)(a b:Value)(h:(match a,b with|.nilIface,.nilIface|.agg _,.agg _=>false|_,_=>true)=true):(eqGuard op t x y a b).run P w=.ok () w:=by
 cases op<;>first|rfl|(cases a<;>cases b<;>first|rfl|(simp at h;done))
theorem cA1(w:World)(op:BinOp)(t:TypeId)(k:IntKind)(a b:Int){p:Prop}{x:AV}(h:bY2 op k a b=some (p,x))(hp:p): ∃v,(binOp op t (.int k a) (.int k b)).run P w=.ok v w/\x=.lit v:=by
 cases op<;>simp only[bY2,Option.some.injEq,Prod.mk.injEq,reduceCtorEq] at h<;>obtain⟨rfl,rfl⟩:=h<;>
  simp[binOp,Op.intArith,Op.intDiv,Op.intBits,Op.intCmp]<;>first|(simp[hp];done)|rfl|(by_cases hab:a=b<;>simp[hab])
theorem cc1(w:World)(op:BinOp)(t:TypeId)(k k':IntKind)(a b:Int){p:Prop}{x:AV}(h:bw6 op k a b=some (p,x))(hp:p): ∃v,(binOp op t (.int k a) (.int k' b)).run P w=.ok v w/\x=.lit v:=by
 cases op<;>simp only[bw6,Option.some.injEq,Prod.mk.injEq,reduceCtorEq] at h<;>obtain⟨rfl,rfl⟩:=h<;>
  (have hn: ¬(b < 0):=by omega
   simp[binOp,Op.shift,hn])
theorem cA0(w:World)(op:BinOp)(t:TypeId)(a b:List UInt8){p:Prop}{x:AV}(h:bT2 op a b=some (p,x))(hp:p): ∃v,(binOp op t (.string ⟨a.toArray⟩) (.string ⟨b.toArray⟩)).run P w=.ok v w/\Rel (Gh.mk (fun _ _=>False) (fun _=>0) (fun _=>(none,0)) (fun _=>none)) [] w x v/\(∀G H,Rel G H w x v):=by
 suffices∃v,(binOp op t (.string ⟨a.toArray⟩) (.string ⟨b.toArray⟩)).run P w=.ok v w/\(∀G H,Rel G H w x v) from let ⟨v,h1,h2⟩:=this;⟨v,h1,h2 _ _,h2⟩
 have hbin:binOp op t (.string ⟨a.toArray⟩) (.string ⟨b.toArray⟩)=Op.stringOp op ⟨a.toArray⟩ ⟨b.toArray⟩:=by cases op<;>rfl
 rw[hbin];cases op<;>simp only[bT2,Option.some.injEq,Prod.mk.injEq,reduceCtorEq] at h<;>obtain⟨rfl,rfl⟩:=h
 ·rw[run_string_add_if,if_neg (by simp[ByteArray.size];omega)]
  refine⟨_,rfl,fun G H=>?_⟩
  have:(ByteArray.mk a.toArray++ByteArray.mk b.toArray)=⟨(a++b).toArray⟩:=by apply ByteArray.ext;simp
  rw[this];exact .str _
 all_goals (simp only[Op.stringOp,Sem.run_pure,ByteArray.toList_mk,decide_not,aS7];exact⟨_,rfl,fun _ _=>.lit _⟩)
theorem cl3(w:World)(op:BinOp)(t:TypeId)(ht:P.underlying t=some .bool)(a b:Bool){p:Prop}{x:AV}(h:bI9 op a b=some (p,x)): ∃v,(binOp op t (.bool a) (.bool b)).run P w=.ok v w/\x=.lit v:=by
 cases op<;>simp only[bI9,Option.some.injEq,Prod.mk.injEq,reduceCtorEq] at h<;>obtain⟨rfl,rfl⟩:=h
 ·exact⟨_,run_eql_bool w t a b ht,by simp[aS7]⟩
 ·exact⟨_,run_neq_bool w t a b ht,by simp[aS7]⟩
theorem aE1{op:BinOp}{b:Bool}{p:Prop}{z:AV}(h:aI6 op b=some (p,z)){G:Gh}{w:World}{o:Oper}{a:Act}(h1:op=.eql->(execOp a.eval o).run P w=.ok (.value (.bool b)) w)(h2:op=.neq->(execOp a.eval o).run P w=.ok (.value (.bool !b)) w):
  ∃v,(execOp a.eval o).run P w=.ok (.value v) w/\Rel G H w z v:=by
 unfold aI6 at h;split at h
 ·cases h;exact⟨_,h1 rfl,.lit _⟩
 ·cases h;exact⟨_,h2 rfl,.lit _⟩
 ·cases h
theorem bh2(w:World)(d:Nat){e:TypeId}{k:IntKind}(he:P.underlying e=some (.int k)){xs ys:Array Value}{az bs:List Int}(hx: ∀(j:Nat) a,az[j]?=some a->xs[j]?=some (.int k a))(hy: ∀(j:Nat) a,bs[j]?=some a->ys[j]?=some (.int k a))(hl:az.length=bs.length):
  ∀is:List Nat,(∀j∈is,j < az.length)->(Op.eqItems (d+1) e 1 xs ys is).run P w=.ok (decide (∀j∈is,az[j]?=bs[j]?)) w
 |[],_=>by simp[Op.eqItems]
 |j::is,h=>by
  have hj:=h j (aD9 ..);have ih:=bh2 w d he hx hy hl is fun i hi=>h i (aJ4 _ hi)
  have hp:P.plainKey e=true:=by simp[Program.plainKey,he]
  have e1:az[j]?=some az[j]:=xq1 hj;have e2:bs[j]?=some bs[j]:=xq1 (by omega)
  simp only[Op.eqItems,Nat.mul_one,Sem.run_bind,run_part_plain w hp (hx j _ e1),run_part_plain w hp (hy j _ e2),Result.andThen_ok,run_equalIn_int w d e k k _ _ he];by_cases hab:az[j]=bs[j]
  ·simp[hab,ih,e1,e2]
  ·simp[hab,e1,e2]
theorem bU8(w:World){t e:TypeId}{n:Nat}{k:IntKind}{i:TypeInfo}(hu:P.underlying t=some (.array n e))(he:P.underlying e=some (.int k))(hi:P.info? e=some i)(hs:i.size=1){xs ys:Array Value}{az bs:List Int}
  (hx: ∀(j:Nat) a,az[j]?=some a->xs[j]?=some (.int k a)) (hy: ∀(j:Nat) a,bs[j]?=some a->ys[j]?=some (.int k a)) (h1:az.length=n) (h2:bs.length=n):(Op.equal t (.agg xs) (.agg ys)).run P w=.ok (decide (az=bs)) w:=by
 have hc:P.cellsOf e=1:=by simp[Program.cellsOf,hi,hs]
 have h3:=bh2 (P:=P) w 9998 he hx hy (by omega) (List.range n) (fun j hj=>by rw[h1];exact bg1.1 hj)
 have h4:=run_equalIn_array (P:=P) w 9999 xs ys hu hi;rw[hc,h3] at h4;unfold Op.equal Op.maxDepth;rw[h4];congr 1
 refine decide_eq_decide.2 ⟨fun h=>?_,fun h=>by subst h;simp⟩
 apply aW9
 intro j;by_cases hj:j < n
 ·exact h j (bg1.2 hj)
 ·rw[aw1 (by omega),aw1 (by omega)]
theorem bY5{t e:TypeId}{n:Nat}{k:IntKind}(hu:P.underlying t=some (.array n e))(he:P.underlying e=some (.int k)):P.eqGuardType P.depth t=false:=by
 unfold Program.depth;simp[Program.eqGuardType,hu,he]
theorem ints_at{G:Gh}{w:World}{k:IntKind}{xs:List AV}{arr:Array Value}(hl:arr.size=xs.length)(hr: ∀(j:Nat) (x:AV) (v:Value),xs[j]?=some x->arr[j]?=some v->Rel G H w x v)(h:bs5 k xs): ∀(j:Nat) a,(xs.map intOf)[j]?=some a->arr[j]?=some (.int k a):=fun j a e=>by
 rw[xq7] at e;cases hx:xs[j]? with
 |none=>rw[hx] at e;cases e
 |some x=>
  rw[hx] at e;cases e
  have hj:j < arr.size:=by rw[hl];exact aa0 hx
  have h1:=hr j x arr[j] hx (xq2 hj);have h2:xs[j]?=some (.lit (.int k (intOf x))):=by
   conv=>lhs;rw[show xs=xs.map fun x=>.lit (.int k (intOf x)) from h]
   rw[xq7,hx];rfl
  rw[hx] at h2;have h3:x=.lit (.int k (intOf x)):=Option.some.inj h2;rw[h3] at h1;rw[xq2 hj,ac0 h1]
theorem c60{L:Tab}(hL:ac7 P L){op:BinOp}{t t':TypeId}{x y:Operand}{p:Prop}{z:AV}(h:bB6 P L op t (isConst y) (ev env x) (ev env y)=some (p,z)):Still P ⟨dst,.binOp op t x y t',ty,pos,after,guard⟩ env H p z:=
 fun hp _ _ G a w s=>by
  have rx:=s.ev x;have ry:=s.ev y;unfold bB6 at h;split at h
  ·rename_i k i k' j e1 e2
   rw[e1] at rx;rw[e2] at ry;have ex:=ac0 rx;have ey:=ac0 ry;split at h
   ·obtain⟨v,hv,rfl⟩:=cc1 (P:=P) w op t k k' i j h hp
    exact⟨v,by simp[execOp,ex,ey,ag2,hv],.lit _⟩
   ·split at h
    ·rename_i hk
     subst hk;obtain⟨v,hv,rfl⟩:=cA1 (P:=P) w op t k i j h hp;exact⟨v,by simp[execOp,ex,ey,ag2,hv],.lit _⟩
    ·cases h
  ·rename_i i j e1 e2
   rw[e1] at rx;rw[e2] at ry;have ex:=ak9 rx;have ey:=ak9 ry;obtain⟨v,hv,_,hr⟩:=cA0 (P:=P) w op t i j h hp;exact⟨v,by simp[execOp,ex,ey,ag2,hv],hr G H⟩
  ·rename_i i j e1 e2
   rw[e1] at rx;rw[e2] at ry;have ex:=ac0 rx;have ey:=ac0 ry;split at h
   ·rename_i hk
    have hu:=(hL t (by rw[hk];simp)).1
    rw[hk] at hu;obtain⟨v,hv,rfl⟩:=cl3 (P:=P) w op t hu i j h;exact⟨v,by simp[execOp,ex,ey,ag2,hv],.lit _⟩
   ·cases h
  ·rename_i e1 e2
   rw[e1] at rx;rw[e2] at ry;have ey:=ac0 ry;generalize hv:a.eval x=v at rx;cases rx with
   |mp k off cs hk'=>
    split at h
    ·rename_i pe hk
     have hu:=(hL t (by rw[hk];simp)).1
     rw[hk] at hu;have hu':P.underlying t=some (.pointer (P.pointee t)):=by
      have:P.pointee t=pe:=by simp[Program.pointee,show P.underlying t=some (.pointer pe) from hu]
      rw[this];exact hu
     exact aE1 h (fun e=>by subst e;simp[execOp,hv,ey,ag2,run_eql_pointer_nil w t _ hu']) (fun e=>by subst e;simp[execOp,hv,ey,ag2,run_neq_pointer_nil w t _ hu'])
    ·cases h
  ·rename_i e1 e2
   rw[e1] at rx;rw[e2] at ry;have ex:=ac0 rx;have ey:=ac0 ry;split at h
   ·rename_i pe hk
    have hu:=(hL t (by rw[hk];simp)).1
    rw[hk] at hu;have hu':P.underlying t=some (.pointer (P.pointee t)):=by
     have:P.pointee t=pe:=by simp[Program.pointee,show P.underlying t=some (.pointer pe) from hu]
     rw[this];exact hu
    exact aE1 h (fun e=>by subst e;simp[execOp,ex,ey,ag2,run_eql_pointer_nil w t _ hu']) (fun e=>by subst e;simp[execOp,ex,ey,ag2,run_neq_pointer_nil w t _ hu'])
   ·cases h
  ·rename_i k o k' o' e1 e2
   rw[e1] at rx;rw[e2] at ry;split at h
   ·rename_i pe hk
    split at h
    ·rename_i hsame
     obtain⟨rfl,rfl,hkn⟩:=hsame;have hu:=(hL t (by rw[hk];simp)).1
     rw[hk] at hu;obtain⟨_,i,_,hinfo,_⟩:=hL pe (aj7 hkn);generalize hv:a.eval x=v at rx;generalize hv2:a.eval y=v2 at ry;cases rx
     cases ry
     exact aE1 h (fun e=>by subst e;simp[execOp,hv,hv2,ag2,run_eql_ptr_same w _ hu hinfo]) (fun e=>by subst e;simp[execOp,hv,hv2,ag2,Lib.run_neq_ptr_same w _ hu hinfo])
    ·cases h
   ·cases h
  ·rename_i e1 e2
   rw[e1] at rx;rw[e2] at ry;have ey:=ac0 ry;generalize hv:a.eval x=v at rx;cases rx with
   |ifc u xv vv hr=>
    split at h
    ·rename_i hk
     have hu:=(hL t (by rw[hk];simp)).1
     rw[hk] at hu;obtain⟨ms,hu⟩:=hu;have hu':P.underlying t=some (.interface (P.methodsAt t)):=by
      have:P.methodsAt t=ms:=by simp[Program.methodsAt,hu]
      rw[this];exact hu
     exact aE1 h (fun e=>by subst e;simp[execOp,hv,ey,ag2,run_eql_held_nil w t _ _ hu']) (fun e=>by subst e;simp[execOp,hv,ey,ag2,run_neq_held_nil w t _ _ hu'])
    ·cases h
  ·rename_i e1 e2
   rw[e1] at rx;rw[e2] at ry;have ex:=ac0 rx;have ey:=ac0 ry;split at h
   ·rename_i hk hy
    have hu:=(hL t (by rw[hk];simp)).1
    rw[hk] at hu;obtain⟨ms,hu⟩:=hu;have hu':P.underlying t=some (.interface (P.methodsAt t)):=by
     have:P.methodsAt t=ms:=by simp[Program.methodsAt,hu]
     rw[this];exact hu
    have hg: ∀op,(eqGuard op t x y .nilIface .nilIface).run P w=.ok () w:=fun op=>by
     cases y with
     |const cv=>cases op<;>simp[eqGuard]
     |_=>simp[isConst] at hy
    exact aE1 h (fun e=>by subst e;simp[execOp,ex,ey,hg,run_eql_nil_nil w t hu']) (fun e=>by subst e;simp[execOp,ex,ey,hg,run_neq_nil_nil w t hu'])
   ·cases h
  ·rename_i t1 x1 t2 x2 e1 e2
   rw[e1] at rx;rw[e2] at ry;generalize hv:a.eval x=v at rx;generalize hv2:a.eval y=v2 at ry;cases rx with
   |ifc _ _ vx hx=>
   cases ry with
   |ifc _ _ vy hy=>
   split at h
   ·rename_i hk
    have hu:=(hL t (by rw[hk];simp)).1
    rw[hk] at hu;obtain⟨ms,hu⟩:=hu;split at h
    ·rename_i ht
     subst ht;split at h
     ·rename_i q k a' k' b' hk1
      split at h
      ·rename_i hkk
       subst hkk;obtain⟨hu1,i,_,hinfo,_,_,_,_,_,_,hcmp,_⟩:=hL t1 (by rw[hk1];simp)
       rw[hk1] at hu1;have hc:(P.info? t1).map (·.comparable)=some true:=by rw[hinfo,Option.map_some,hcmp (by rw[hk1];rfl)]
       have e3:=ac0 hx;have e4:=ac0 hy;subst e3;subst e4;refine aE1 h (fun e=>?_) (fun e=>?_)
       ·subst e
        simp[execOp,hv,hv2,ag2,Lib.run_eql_iface_int w a' b' hu hc hu1,aS7]
       ·subst e
        simp[execOp,hv,hv2,ag2,Lib.run_neq_iface_int w a' b' hu hc hu1,aS7]
      ·cases h
     ·cases h
    ·rename_i ht
     have hne: ∀d:Nat,(Op.equalIn (d+1) t (.iface t1 vx) (.iface t2 vy)).run P w=.ok false w:=fun d=>by
      simp[Op.equalIn,run_underlying hu,ht]
     refine aE1 h (fun e=>?_) (fun e=>?_)
     ·subst e
      simp[execOp,hv,hv2,ag2,binOp,Op.equal,Op.maxDepth,hne 9999]
     ·subst e
      simp[execOp,hv,hv2,ag2,binOp,Op.equal,Op.maxDepth,hne 9999]
   ·cases h
  ·rename_i xs ys e1 e2
   rw[e1] at rx;rw[e2] at ry;generalize hv:a.eval x=v at rx;generalize hv2:a.eval y=v2 at ry;cases rx with
   |agg _ ax hl1 hr1=>
   cases ry with
   |agg _ ay hl2 hr2=>
   split at h
   ·rename_i n e hk
    have hu:=(hL t (by rw[hk];simp)).1
    rw[hk] at hu;split at h
    ·rename_i k he
     obtain⟨hue,i,_,hinfo,hsz,_⟩:=hL e (by rw[he];simp)
     rw[he] at hue;unfold bF1 at h;split at h
     ·cases h
      obtain⟨p1,p2,p3,p4,p5⟩:=hp;have hrun:=bU8 (P:=P) w hu hue hinfo (hsz.trans p1) (ints_at hl1 hr1 p2) (ints_at hl2 hr2 p3) (by rw[List.length_map];exact p4) (by rw[List.length_map];exact p5)
      exact⟨.bool (decide (xs.map intOf=ys.map intOf)),by simp[execOp,hv,hv2,run_eqGuard_agg (hm:=bY5 hu hue),binOp,hrun],.lit _⟩
     ·cases h
      obtain⟨p1,p2,p3,p4,p5⟩:=hp;have hrun:=bU8 (P:=P) w hu hue hinfo (hsz.trans p1) (ints_at hl1 hr1 p2) (ints_at hl2 hr2 p3) (by rw[List.length_map];exact p4) (by rw[List.length_map];exact p5)
      exact⟨.bool (!decide (xs.map intOf=ys.map intOf)),by simp[execOp,hv,hv2,run_eqGuard_agg (hm:=bY5 hu hue),binOp,hrun],.lit _⟩
     ·cases h
    ·cases h
   ·rename_i fs hk
    have hu:=(hL t (by rw[hk];simp)).1
    rw[hk] at hu;obtain⟨fa,hu,_⟩:=hu;split at h
    ·rename_i ks hck
     split at h
     ·rename_i r hr
      have hv1:=dh9 hr (by rw[bR9];exact hl1) (by rw[bR9];exact hl2) (fun j x v a b=>hr1 j x v a (by simpa using b)) (fun j x v a b=>hr2 j x v a (by simpa using b))
      have hm: ∀zs:Array Value,mkT P t zs.toList=.agg zs:=fun zs=>by simp[mkT,hu]
      have hrun:=dj1 4 t ks _ _ r 9996 w hck hv1;rw[hm,hm] at hrun;have hg:P.eqGuardType P.depth t=false:=by
       have:=cw6 4 t ks (P.depth - 4) hck;rwa [show 4+(P.depth - 4)=P.depth by unfold Program.depth;have:1<=Made.depth:=(by decide);omega] at this
      unfold bF1 at h;split at h
      ·cases h
       exact⟨.bool r,by simp[execOp,hv,hv2,run_eqGuard_agg (hm:=hg),binOp,Op.equal,Op.maxDepth,hrun],.lit _⟩
      ·cases h
       exact⟨.bool (!r),by simp[execOp,hv,hv2,run_eqGuard_agg (hm:=hg),binOp,Op.equal,Op.maxDepth,hrun],.lit _⟩
      ·cases h
     ·cases h
    ·cases h
   ·cases h
  ·cases h
def qUn(op:UnOp):AV->Option AV
 |.lit (.bool b)=>match op with|.not=>some (.bool !b)|_=>none
 |.lit (.int k n)=>match op with
  |.neg=>some (.int k (k.wrap (0 - n)))
  |.xor=>some (.int k (k.wrap (BitVec.ofInt k.bits (if k.signed then -1 else k.max)^^^BitVec.ofInt k.bits n).toNat))
  |_=>none
 |_=>none
theorem do1{op:UnOp}{t:TypeId}{x:Operand}{z:AV}(h:qUn op (ev env x)=some z):Still P ⟨dst,.unOp op t x,ty,pos,after,guard⟩ env H True z:=
 fun _ _ _ G a w s=>by
  have rx:=s.ev x;unfold qUn at h;split at h
  ·rename_i b e
   rw[e] at rx;have ex:=ac0 rx;split at h
   ·cases h
    exact⟨_,by simp[execOp,ex,Op.unary],.lit _⟩
   ·cases h
  ·rename_i k i e
   rw[e] at rx;have ex:=ac0 rx;split at h
   ·cases h
    exact⟨_,by simp[execOp,ex,Op.unary,Op.intArith],.lit _⟩
   ·cases h
    exact⟨_,by simp[execOp,ex,Op.unary,Op.intBits],.lit _⟩
   ·cases h
  ·cases h
theorem cc0{x:Operand}{i:Nat}{xs:List AV}{z:AV}(h:ev env x=.tup xs)(hz:xs[i]?=some z):Still P ⟨dst,.extract x i,ty,pos,after,guard⟩ env H True z:=
 fun _ _ _ G a w s=>by
  have rx:=s.ev x;rw[h] at rx;generalize hv:a.eval x=v at rx;cases rx with
  |tup _ arr hl hr=>
   have hi:i < arr.size:=by rw[hl];exact aa0 hz
   exact⟨arr[i],by simp[execOp,hv,Instr.extract,xq2 hi],hr i z arr[i] hz (xq2 hi)⟩
theorem size_mk(l:List UInt8):(ByteArray.mk l.toArray).size=l.length:=rfl
def cm5(L:Tab)(t:TypeId)(x:AV):Option AV:=
 match(L t).k,x with
 |.str,.str l=>some (.int .i64 l.length)
 |.slice _,.sl _ _ xs=>some (.int .i64 xs.length)
 |.slice _,.msl _ _ len _=>some (.int .i64 len)
 |.slice _,.mrow _ len=>some (.int .i64 len)
 |.arr n _,_=>some (.int .i64 n)
 |_,_=>none
theorem c57{L:Tab}(hL:ac7 P L){t:TypeId}{x:Operand}{z:AV}(h:cm5 L t (ev env x)=some z):
  Still P ⟨dst,.call {callee:=.builtin .len,args:= #[x],argTypes:= #[t]},ty,pos,after,guard⟩ env H True z:=
 fun _ _ _ G a w s=>by
  have rx:=s.ev x;unfold cm5 at h;split at h
  ·rename_i l hk e
   have hu:=(hL t (by rw[hk];simp)).1
   rw[hk] at hu;rw[e] at rx;have ex:=ak9 rx;cases h
   exact⟨.int .i64 l.length,by simp[execOp,resolve,invoke,builtin,ex,Builtin.len_,run_underlying hu,goInt,size_mk],.lit _⟩
  ·rename_i e' o s' xs hk e
   have hu:=(hL t (by rw[hk];simp)).1
   rw[hk] at hu;rw[e] at rx;generalize hv:a.eval x=v at rx;cases rx with
   |sl _ _ _ ad len cap val hl=>
    cases h
    exact⟨.int .i64 len,by simp[execOp,resolve,invoke,builtin,hv,Builtin.len_,run_underlying hu,goInt],by rw[hl];exact .lit _⟩
  ·rename_i e' k off len cap hk e
   have hu:=(hL t (by rw[hk];simp)).1
   rw[hk] at hu;rw[e] at rx;generalize hv:a.eval x=v at rx;cases rx with
   |msl=>
    cases h
    exact⟨.int .i64 len,by simp[execOp,resolve,invoke,builtin,hv,Builtin.len_,run_underlying hu,goInt],.lit _⟩
  ·rename_i e' k len hk e
   have hu:=(hL t (by rw[hk];simp)).1
   rw[hk] at hu;rw[e] at rx;generalize hv:a.eval x=v at rx;cases rx with
   |mrow=>
    cases h
    exact⟨.int .i64 len,by simp[execOp,resolve,invoke,builtin,hv,Builtin.len_,run_underlying hu,goInt],.lit _⟩
  ·rename_i n e' hk
   have hu:=(hL t (by rw[hk];simp)).1
   rw[hk] at hu;cases h
   exact⟨.int .i64 n,by simp[execOp,resolve,invoke,builtin,Builtin.len_,run_underlying hu,goInt],.lit _⟩
  ·cases h
end
end V
end
section
namespace V
open Go
variable {ds:List Deferred}
theorem ag6(x:AV)(xs:List AV):aa2 (x::xs)=x.flat++aa2 xs:=by simp[aa2]
theorem af5{s:Nat}: ∀{xs:List AV},(∀x∈xs,x.flat.length=s)->(aa2 xs).length=xs.length*s
 |[],_=>by simp[aa2]
 |x::xs,h=>by
  rw[ag6,List.length_append,h x (aD9 ..),af5 fun y hy=>h y (aJ4 _ hy),List.length_cons,bL8,Nat.add_comm]
theorem bx2{s:Nat}: ∀{xs:List AV} (l:Nat),(∀x∈xs,x.flat.length=s)->aa2 (xs.drop l)=(aa2 xs).drop (l*s)
 |[],l,_=>by simp[aa2]
 |x::xs,0,_=>by simp
 |x::xs,l+1,h=>by
  rw[ao5,bx2 l fun y hy=>h y (aJ4 _ hy),ag6,List.drop_append]
  have:=h x (aD9 ..);have e1:List.drop ((l+1)*s) x.flat=[]:=bc5 (by rw[this,bL8];omega)
  have e2:(l+1)*s - x.flat.length=l*s:=by rw[this,bL8];omega
  rw[e1,e2,List.nil_append]
theorem bY9{s:Nat}: ∀{xs:List AV} (l:Nat),(∀x∈xs,x.flat.length=s)->aa2 (xs.take l)=(aa2 xs).take (l*s)
 |[],l,_=>by simp[aa2]
 |x::xs,0,_=>by simp[aa2]
 |x::xs,l+1,h=>by
  rw[an7,ag6,bY9 l fun y hy=>h y (aJ4 _ hy),ag6,List.take_append]
  have:=h x (aD9 ..);have e1:List.take ((l+1)*s) x.flat=x.flat:=aF0 (by rw[this,bL8];omega)
  have e2:(l+1)*s - x.flat.length=l*s:=by rw[this,bL8];omega
  rw[e1,e2]
theorem dg7{s:Nat}{xs:List AV}(h: ∀x∈xs,x.flat.length=s){i j:Nat}{x y:AV}(hx:xs[i]?=some x)(hy:x.flat[j]?=some y):(aa2 xs)[i*s+j]?=some y:=by
 have hi:=aa0 hx;have e:aa2 (xs.drop i)=(aa2 xs).drop (i*s):=bx2 i h;have e2:xs.drop i=x::xs.drop (i+1):=by
  rw[aL3 hi];have:=xq1 hi;rw[hx] at this;cases this
  rfl
 rw[e2,ag6] at e;have h3:((aa2 xs).drop (i*s))[j]?=some y:=by rw[<-e,xq4 (aa0 hy)];exact hy
 rw[aL2] at h3;exact h3
theorem ak4(xs ys:List AV):aa2 (xs++ys)=aa2 xs++aa2 ys:=by simp[aa2]
theorem addr_add(b off n:Nat):(Addr.mk b off none).add n=⟨b,off+n,none⟩:=by
 unfold Addr.add;split
 ·rename_i h;subst h;rfl
 ·rfl
theorem Rel.sl_addr{G:Gh}{H:List AObj}{w:World}{o:Own}{s:Nat}{xs:List AV}{v:Value}(h:Rel G H w (.sl o s xs) v)(hs:0 < s)(hx:0 < xs.length):
  ∃b off cap,v=.slice (some ⟨b,off,none⟩) xs.length cap/\xs.length<=cap/\(∀j y,(aa2 xs)[j]?=some y->G.imm b (off+j)/\ ∃u,w.cell? ⟨b,off+j,none⟩=some u/\Rel G H w y u):=by
 cases h with
 |sl _ _ _ ad len cap val hl hcap huni hc hr hf ha ho=>
  have huni:=fun x hx=>(huni x hx).1
  have h0:0 < (aa2 xs).length:=by rw[af5 huni];exact Nat.mul_pos hx hs
  obtain⟨b,off,e,_⟩:=hc 0 _ (xq1 h0);subst e;subst hl;refine⟨b,off,cap,rfl,hcap,fun j y hj=>?_⟩
  obtain⟨b',off',e',hi,hw⟩:=hc j y hj;cases e'
  exact⟨hi,val j,hw,hr j y hj⟩
theorem Rel.sl_uni{G:Gh}{H:List AObj}{w:World}{o:Own}{s:Nat}{xs:List AV}{v:Value}(h:Rel G H w (.sl o s xs) v): ∀x∈xs,x.flat.length=s:=by
 cases h with
 |sl _ _ _ ad len cap val hl hcap huni=>exact fun x hx=>(huni x hx).1
theorem Rel.sl_okv{G:Gh}{H:List AObj}{w:World}{o:Own}{s:Nat}{xs:List AV}{v:Value}(h:Rel G H w (.sl o s xs) v): ∀x∈xs,x.okv=true:=by
 cases h with
 |sl _ _ _ ad len cap val hl hcap huni=>exact fun x hx=>(huni x hx).2
theorem bl4{G:Gh}{H:List AObj}{w:World}{x:AV}{b off:Nat}(h: ∀j y,x.flat[j]?=some y->G.imm b (off+j)/\ ∃u,w.cell? ⟨b,off+j,none⟩=some u/\Rel G H w y u):Rel G H w (.ip x) (.pointer (some ⟨b,off,none⟩)):=by
 refine .ip x b off (fun j=>(w.cell? ⟨b,off+j,none⟩).getD undef) (fun j y e=>?_) (fun j y e=>?_)
 ·obtain⟨h1,u,h2,_⟩:=h j y e
  exact⟨h1,by rw[h2];rfl⟩
 ·obtain⟨_,u,h2,h3⟩:=h j y e
  rw[h2];exact h3
theorem bl3{G:Gh}{H:List AObj}{w:World}{s:Nat}{xs:List AV}{b off len cap:Nat}(hl:len=xs.length)(hcap:len<=cap)(hs: ∀x∈xs,x.flat.length=s/\x.okv=true)
  (h: ∀j y,(aa2 xs)[j]?=some y->G.imm b (off+j)/\ ∃u,w.cell? ⟨b,off+j,none⟩=some u/\Rel G H w y u):Rel G H w (.sl .sh s xs) (.slice (some ⟨b,off,none⟩) len cap):=by
 refine .sl .sh s xs _ _ _ (fun j=>(w.cell? ⟨b,off+j,none⟩).getD undef) hl hcap hs (fun j y e=>?_) (fun j y e=>?_) (fun e=>by cases e) (fun _=>rfl) (fun k e=>by cases e)
 ·obtain⟨h1,u,h2,_⟩:=h j y e
  exact⟨b,off,rfl,h1,by rw[h2];rfl⟩
 ·obtain⟨_,u,h2,h3⟩:=h j y e
  rw[h2];exact h3
section
variable {P:Program}{env:Env}{H:List AObj}{dst:Option Tmp}{ty:TypeId}{pos:String}{after:Array Edge}{guard:Option (Nat×Bool)}
theorem dU3{L:Tab}(hL:ac7 P L){t:TypeId}(ht:(L t).k≠ .other): ∃i,P.info? t=some i/\i.size=(L t).size/\i.bytes=(L t).bytes:=
 let ⟨_,i,_,h1,h2,h3,_⟩:=hL t ht
 ⟨i,h1,h2,h3⟩
theorem ai9{L:Tab}(hL:ac7 P L){t:TypeId}(ht:(L t).k≠ .other)(w:World):(sizeOf t).run P w=.ok (L t).size w:=by
 obtain⟨i,h1,h2,_⟩:=dU3 hL ht;simp[sizeOf,typeInfo,h1,h2]
theorem b79{L:Tab}(hL:ac7 P L){t:TypeId}(ht:(L t).k≠ .other)(w:World):(isAgg t).run P w=.ok (L t).k.agg w:=by
 have h:=(hL t ht).1;cases hk:(L t).k with
 |other=>exact absurd hk ht
 |one=>
  rw[hk] at h;obtain⟨d,hd,hr⟩:=h;simp[isAgg,run_underlying hd,TK.agg]
  cases d<;>simp_all
 |struct fs=>
  rw[hk] at h;obtain⟨a,ha,_⟩:=h;simp[isAgg,run_underlying ha,TK.agg]
 |iface=>
  rw[hk] at h;obtain⟨ms,h⟩:=h;simp[isAgg,run_underlying h,TK.agg]
 |bool|int _|str|slice _|arr _ _|ptr _|map _ _|uptr=>
  rw[hk] at h;simp[isAgg,run_underlying h,TK.agg]
def aV3(l:LT)(cs:List AV)(off:Nat):Prop:=l.k≠ .other/\(if l.k.agg then off+l.size<=cs.length else off < cs.length/\(cs.getD off .any).flat=[cs.getD off .any])
def aA8(l:LT)(cs:List AV)(off:Nat):AV:=if l.k.agg then .agg ((cs.drop off).take l.size) else cs.getD off .any
theorem cA5{G:Gh}{w:World}{y:AV}{b off o:Nat}{l:LT}(r:Rel G H w (.ip y) (.pointer (some ⟨b,off,none⟩)))(h3:aV3 l y.flat o):Rel G H w (.ip (aA8 l y.flat o)) (.pointer (some ⟨b,off+o,none⟩)):=by
 cases r with
 |ip _ _ _ val hc hr=>
  refine bl4 fun j u hj=>?_
  have hj':y.flat[o+j]?=some u:=by
   unfold aA8 aV3 at*;cases hg:l.k.agg with
   |true=>
    simp only[hg,if_true,AV.flat] at hj;rw[aB1] at hj;split at hj
    ·rwa [aL2] at hj
    ·cases hj
   |false=>
    simp only[hg,Bool.false_eq_true,if_false] at hj h3;obtain⟨_,h4,h5⟩:=h3;rw[h5] at hj;cases j with
    |zero=>simp only[List.getElem?_cons_zero,Option.some.injEq] at hj;rw[<-hj,aD8];simp[List.getD,xq1 h4]
    |succ j=>simp at hj
  rw[bo3];exact⟨(hc _ u hj').1,_,(hc _ u hj').2,hr _ u hj'⟩
def aG8(L:Tab)(t:TypeId)(x:AV)(i:AV):Option (Prop×AV):=
 match i with
 |.lit (.int _ i)=>
  match(L t).k,x with
  |.slice e,.sl _ s xs=>some (0<=i/\i < xs.length/\s=(L e).size/\0 < s/\(L e).k≠ .other,.ip (xs.getD i.toNat .any))
  |.slice e,.msl k off len _=>some (0<=i/\i < len/\(L e).k≠ .other,.mp k (off+i.toNat*(L e).size))
  |.slice e,.mrow k len=>some (0<=i/\i < len/\(L e).k≠ .other,.mp k (i.toNat*(L e).size))
  |.arr n e,.mp k off=>some (0<=i/\i < n/\(L e).k≠ .other,.mp k (off+i.toNat*(L e).size))
  |.arr n e,.ip y=>some (0<=i/\i < n/\(L e).k≠ .other/\aV3 (L e) y.flat (i.toNat*(L e).size),.ip (aA8 (L e) y.flat (i.toNat*(L e).size)))
  |_,_=>none
 |_=>none
theorem bT4{L:Tab}(hL:ac7 P L){t:TypeId}{x i:Operand}{p:Prop}{z:AV}(h:aG8 L t (ev env x) (ev env i)=some (p,z)):
  Still P ⟨dst,.indexAddr t x i,ty,pos,after,guard⟩ env H p z:=fun hp _ _ G a w s=>by
 have rx:=s.ev x;have ri:=s.ev i;unfold aG8 at h;split at h
 ·rename_i ki iv ei
  rw[ei] at ri;have hi:=ac0 ri;split at h
  ·rename_i e o sz xs hk ex
   have hu:=(hL t (by rw[hk];simp)).1
   rw[hk] at hu;rw[ex] at rx;cases h
   obtain⟨h0,h1,h2,h3,h4⟩:=hp;subst h2;obtain⟨b,off,cap,hv,hcap,hc⟩:=rx.sl_addr h3 (by omega)
   have huni:=rx.sl_uni;have hel:P.elem t=e:=by simp[Program.elem,show P.underlying t=some (.slice e) from hu]
   have hlt:iv.toNat < xs.length:=by omega
   refine⟨.pointer (some ⟨b,off+iv.toNat*(L e).size,none⟩),?_,bl4 fun j y hy=>?_⟩
   ·simp[execOp,hv,hi,run_indexAt_slice w t _ _ _ _ _ (by rw[hel];exact hu),hel,h0,h1,ai9 hL h4,addr_add]
   ·have hg:xs[iv.toNat]?=some (xs.getD iv.toNat .any):=by simp[List.getD,xq1 hlt]
    have:=hc _ _ (dg7 huni hg hy);rwa [<-bo3] at this
  ·rename_i e k off len cap hk ex
   have hu:=(hL t (by rw[hk];simp)).1
   rw[hk] at hu;rw[ex] at rx;cases h
   obtain⟨h0,h1,h4⟩:=hp;have hel:P.elem t=e:=by simp[Program.elem,show P.underlying t=some (.slice e) from hu]
   generalize hv:a.eval x=v at rx;cases rx with
   |msl _ _ _ _ o hk' ho hcap=>
    refine⟨.pointer (some ⟨G.blk k,off+iv.toNat*(L e).size,none⟩),?_,.mp _ _ o hk' ho⟩;simp[execOp,hv,hi,run_indexAt_slice w t _ _ _ _ _ (by rw[hel];exact hu),hel,h0,h1,ai9 hL h4,addr_add]
  ·rename_i e k len hk ex
   have hu:=(hL t (by rw[hk];simp)).1
   rw[hk] at hu;rw[ex] at rx;cases h
   obtain⟨h0,h1,h4⟩:=hp;have hel:P.elem t=e:=by simp[Program.elem,show P.underlying t=some (.slice e) from hu]
   generalize hv:a.eval x=v at rx;cases rx with
   |mrow _ _ o hk' ho hcap=>
    refine⟨.pointer (some ⟨G.blk k,iv.toNat*(L e).size,none⟩),?_,.mp _ _ o hk' ho⟩;simp[execOp,hv,hi,run_indexAt_slice w t _ _ _ _ _ (by rw[hel];exact hu),hel,h0,h1,ai9 hL h4,addr_add]
  ·rename_i n e k off hk ex
   have hu:=(hL t (by rw[hk];simp)).1
   rw[hk] at hu;rw[ex] at rx;cases h
   obtain⟨h0,h1,h4⟩:=hp;have hel:P.elem t=e:=by simp[Program.elem,show P.underlying t=some (.array n e) from hu]
   have hal:P.arrayLen t=n:=by simp[Program.arrayLen,show P.underlying t=some (.array n e) from hu]
   generalize hv:a.eval x=v at rx;cases rx with
   |mp _ _ o hk' ho=>
    refine⟨.pointer (some ⟨G.blk k,off+iv.toNat*(L e).size,none⟩),?_,.mp _ _ o hk' ho⟩;simp[execOp,hv,hi,run_indexAt_array w t _ _ _ (by rw[hel,hal];exact hu),hel,hal,h0,h1,ai9 hL h4,addr_add]
  ·rename_i n e y hk ex
   have hu:=(hL t (by rw[hk];simp)).1
   rw[hk] at hu;rw[ex] at rx;cases h
   obtain⟨h0,h1,h4,h5⟩:=hp;have hel:P.elem t=e:=by simp[Program.elem,show P.underlying t=some (.array n e) from hu]
   have hal:P.arrayLen t=n:=by simp[Program.arrayLen,show P.underlying t=some (.array n e) from hu]
   generalize hv:a.eval x=v at rx;have rx':=rx;cases rx with
   |ip _ b off val hc hr=>
    refine⟨.pointer (some ⟨b,off+iv.toNat*(L e).size,none⟩),?_,cA5 rx' h5⟩;simp[execOp,hv,hi,run_indexAt_array w t _ _ _ (by rw[hel,hal];exact hu),hel,hal,h0,h1,ai9 hL h4,addr_add]
  ·cases h
 ·cases h
def db3(l:LT)(y:AV):Prop:=l.k≠ .other/\(if l.k.agg then y=.agg y.flat/\y.flat.length=l.size else y.flat=[y])
def aE7(L:Tab)(H:List AObj)(t:TypeId)(x:AV):Option (Prop×AV):=
 match x with
 |.ip y=>some (db3 (L t) y,y)
 |.mp k off=>match H[k]? with
  |some (.cells _ cs)=>some (aV3 (L t) cs off,aA8 (L t) cs off)
  |none=>none
  |some (.grow _ _ _)=>none
  |some .gone=>none
  |some (.loop _ _)=>none
  |some (.mo _)=>none
 |_=>none
theorem aN1{L:Tab}(hL:ac7 P L){t:TypeId}{w:World}{b off:Nat}(ht:(L t).k≠ .other)(cs:List Value)(h: ∀(j:Nat) v,cs[j]?=some v->w.cell? ⟨b,off+j,none⟩=some v)
  (hn:cs.length=if(L t).k.agg then(L t).size else 1):(loadVar t ⟨b,off,none⟩).run P w=.ok (if(L t).k.agg then .agg cs.toArray else cs.getD 0 undef) w:=by
 simp only[loadVar,Sem.run_bind,b79 hL ht,Result.andThen_ok];cases hg:(L t).k.agg with
 |true=>
  rw[hg] at hn;simp only[if_true] at hn;have:=run_loadCells_list (P:=P) w ⟨b,off,none⟩ cs (fun j v e=>by rw[addr_add];exact h j v e)
  rw[hn] at this;simp[ai9 hL ht,this]
 |false=>
  rw[hg] at hn;match cs,hn with
  |[u],_=>
   have:=h 0 u rfl;simp[run_load,show w.cell? ⟨b,off,none⟩=some u from this]
theorem aJ0{G:Gh}{w:World}{b off:Nat}: ∀(l:List AV),(∀(j:Nat) y,l[j]?=some y-> ∃u,w.cell? ⟨b,off+j,none⟩=some u/\Rel G H w y u)->
  ∃cs:List Value,cs.length=l.length/\(∀(j:Nat) v,cs[j]?=some v->w.cell? ⟨b,off+j,none⟩=some v)/\(∀(j:Nat) y v,l[j]?=some y->cs[j]?=some v->Rel G H w y v):=by
 intro l h;refine⟨(List.range l.length).map fun j=>(w.cell? ⟨b,off+j,none⟩).getD undef,by simp,fun j v e=>?_,fun j y v e e'=>?_⟩
 ·rw[xq7] at e
  have hj:j < l.length:=by
   have:=aa0 (show ((List.range l.length).map fun j=>(w.cell? ⟨b,off+j,none⟩).getD undef)[j]?=some v by rw[xq7];exact e)
   simpa using this
  obtain⟨u,hu,_⟩:=h j _ (xq1 hj);simp[hj,hu] at e
  rw[hu,e]
 ·have hj:=aa0 e
  obtain⟨u,hu,hr⟩:=h j y e;simp[hj,hu] at e'
  exact e'▸hr
theorem cr9{L:Tab}(hL:ac7 P L){t:TypeId}{x:AV}{p:Prop}{z:AV}(h:aE7 L H t x=some (p,z))(hp:p){G:Gh}{w:World}(hi:HInv G H w){v:Value}(rx:Rel G H w x v):
  ∃ad u,v=.pointer (some ad)/\(loadVar t ad).run P w=.ok u w/\Rel G H w z u:=by
 unfold aE7 at h;split at h
 ·rename_i y
  cases h
  obtain⟨ht,hy⟩:=hp;cases rx with
  |ip _ b off val hc hr=>
   obtain⟨cs,hl,h1,h2⟩:=aJ0 (G:=G) (H:=H) (w:=w) (b:=b) (off:=off) z.flat (fun j u e=>⟨val j,(hc j u e).2,hr j u e⟩)
   cases hg:(L t).k.agg with
   |true=>
    rw[hg] at hy;simp only[if_true] at hy;refine⟨_,.agg cs.toArray,rfl,?_,?_⟩
    ·simp[aN1 hL ht cs h1 (by rw[hl,hg];simpa using hy.2),hg]
    ·rw[hy.1]
     exact .agg _ _ (by simpa using hl) fun j u v e e'=>h2 j u v (by simpa using e) (by simpa using e')
   |false=>
    rw[hg] at hy;simp only[Bool.false_eq_true,if_false] at hy;refine⟨_,cs.getD 0 undef,rfl,?_,?_⟩
    ·simp[aN1 hL ht cs h1 (by rw[hl,hg,hy];rfl),hg]
    ·rw[hy] at h2 hl
     have h0:0 < cs.length:=by rw[hl];simp
     exact h2 0 z _ rfl (by simp[xq1 h0])
 ·rename_i k off
  split at h
  ·rename_i sh cs hk
   cases h
   obtain⟨ht,hy⟩:=hp;cases rx with
   |mp=>
    obtain⟨arr,T,fr,hb,hsz,hr,_⟩:=hi.cells k sh cs hk;have hcell: ∀j (hj:j < arr.size),w.cell? ⟨G.blk k,j,none⟩=some arr[j]:=fun j hj=>by simp[World.cell?,hb,xq2 hj]
    cases hg:(L t).k.agg with
    |true=>
     rw[hg] at hy;simp only[if_true] at hy;obtain⟨us,hl,h1,h2⟩:=aJ0 (G:=G) (H:=H) (w:=w) (b:=G.blk k) (off:=off) ((cs.drop off).take (L t).size) (fun j u e=>by
      rw[aB1] at e;split at e
      ·rw[aL2] at e
       have hj:=aa0 e;exact⟨_,hcell (off+j) (by omega),hr _ _ _ e (xq2 (by omega))⟩
      ·cases e)
     have hlen:((cs.drop off).take (L t).size).length=(L t).size:=by rw[List.length_take,List.length_drop];omega
     refine⟨_,.agg us.toArray,rfl,?_,?_⟩
     ·simp[aN1 hL ht us h1 (by rw[hl,hg,hlen];rfl),hg]
     ·simp only[aA8,hg,if_true]
      exact .agg _ _ (by simpa using hl) fun j u v e e'=>h2 j u v e (by simpa using e')
    |false=>
     rw[hg] at hy;simp only[Bool.false_eq_true,if_false] at hy;have ho:off < arr.size:=by omega
     refine⟨_,arr[off],rfl,?_,?_⟩
     ·have:=aN1 (P:=P) (w:=w) (b:=G.blk k) (off:=off) hL ht [arr[off]] (fun j v e=>by
       cases j with
       |zero=>simp at e;subst e;exact hcell off ho
       |succ j=>simp at e) (by rw[hg];rfl)
      simp[this,hg]
     ·simp only[aA8,hg]
      exact hr off _ _ (by simp[List.getD,xq1 hy.1]) (xq2 ho)
  ·cases h
  ·cases h
  ·cases h
  ·cases h
  ·cases h
 ·cases h
theorem cP7{L:Tab}(hL:ac7 P L){t:TypeId}{x:Operand}{p:Prop}{z:AV}(h:aE7 L H t (ev env x)=some (p,z)):
  Still P ⟨dst,.load t x,ty,pos,after,guard⟩ env H p z:=fun hp _ _ G a w s=>by
 obtain⟨ad,u,hv,hr,hz⟩:=cr9 hL h hp s.inv (s.ev x);exact⟨u,by simp[execOp,hv,Instr.loadAt,Instr.sureAddr,hr],hz⟩
end
end V
end
section
namespace V
open Go
variable {ds:List Deferred}
theorem df5{w:World}{b:Nat}(h:w.heap.size<=b):w.heap[b]?=none:=bo4 h
theorem au1{w:World}{b:Nat}{o:Obj}(h:w.heap[b]?=some o):b < w.heap.size:=by
 rcases xq8 b w.heap.size with hl|hl
 ·exact hl
 ·rw[df5 hl] at h;cases h
structure More(w w':World):Prop where
 os:w'.os=w.os
 tape:w'.tape=w.tape
 output:w'.output=w.output
 size:w.heap.size<=w'.heap.size
 old: ∀b,b < w.heap.size->w'.heap[b]?=w.heap[b]?
theorem More.refl(w:World):More w w:=⟨rfl,rfl,rfl,xq0 _,fun _ _=>rfl⟩
theorem More.drew{w w':World}(h:More w w'):More w w'.drew:=⟨h.os,h.tape,h.output,h.size,h.old⟩
theorem More.alloc{w w':World}(h:More w w')(o:Obj):More w (w'.alloc o):=
 ⟨h.os,h.tape,h.output,by have:=h.size;simp;omega,fun b hb=>(RowKit.Below.heap_alloc w' o b (aB2 hb h.size)).trans (h.old b hb)⟩
def aF8(G:Gh)(w w':World):Gh:={G with imm:=fun b off=>G.imm b off\/(w.heap.size<=b/\b < w'.heap.size)}
theorem More.step{G:Gh}{H:List AObj}{w w':World}(h:More w w')(hi:HInv G H w):Step G H w (aF8 G w w') H w':=
 ⟨congrArg (fun o=>(o,G.lp)) h.os,h.tape,h.output,h.size,fun _ _ hb=>.inl hb,fun b off hb=>World.cell?_of_block (w:=w) (h.old b (hi.lt b off hb)),fun b hb=>h.old b (hi.lt b 0 (hb 0)),fun k=>by
  cases e:H[k]? with
  |none=>exact aN5 e
  |some o=>cases o with
   |cells t cs=>exact⟨⟨_,e,rfl⟩,rfl,rfl⟩
   |mo x=>exact⟨⟨_,e,rfl⟩,rfl,rfl⟩
   |gone=>exact⟨e,rfl,rfl⟩
   |loop r E=>exact⟨e,rfl,rfl⟩
   |grow s n t=>exact⟨n,e,xq0 _,fun _=>rfl⟩⟩
theorem More.inv{G:Gh}{H:List AObj}{w w':World}(h:More w w')(hi:HInv G H w):HInv (aF8 G w w') H w':=by
 have st:=h.step hi;refine⟨fun b off hb=>?_,fun k sh cs e=>?_,fun k s n t e=>?_,fun k k' b=>hi.apart k k' b,hi.tabs.step st fun k x e=>⟨e,h.old _ (hi.mo_lt e),fun off hb=>hb.elim id fun h1=>absurd (hi.mo_lt e) (Nat.not_lt.2 h1.1)⟩⟩
 ·rcases hb with hb|hb
  ·exact aB2 (hi.lt b off hb) h.size
  ·exact hb.2
 ·obtain⟨arr,T,fr,hb,hs,hr,hf⟩:=hi.cells k sh cs e
  have hlt:=au1 hb;refine⟨arr,T,fr,(h.old _ hlt).trans hb,hs,fun j x v ex ev=>(hr j x v ex ev).mono st,fun off=>?_,fun off ho=>?_,hf.2.2⟩
  ·rintro(h1|h1)
   ·exact hf.1 off h1
   ·have:G.blk k < w.heap.size:=hlt
    have h2:w.heap.size<=G.blk k:=h1.1;omega
  ·exact(World.frozen?_of_block (w:=w) (h.old _ hlt)).trans (hf.2.1 off ho)
 ·obtain⟨h0,h1,h2,hty⟩:=hi.grow k s n t e
  refine⟨h0,h1,fun hn=>?_,aj1 hty rfl (xq0 _) (fun b arr e fr hb=>⟨arr,(h.old _ (au1 hb)).trans hb,rfl⟩) fun b off arr e fr hb _ _ _ hx _=>by
   rcases hx with hx|hx
   ·exact hx
   ·have:=au1 hb
    omega⟩
  obtain⟨b,off,arr,T,fr,ea,hb,hsz,hj⟩:=h2 hn;have hlt:=au1 hb;refine⟨b,off,arr,T,fr,ea,(h.old _ hlt).trans hb,hsz,fun j h3 h4=>⟨?_,?_⟩⟩
  ·rintro(h5|h5)
   ·exact(hj j h3 h4).1 h5
   ·omega
  ·exact(World.frozen?_of_block (w:=w) (h.old _ hlt)).trans (hj j h3 h4).2
section
variable {P:Program}{env:Env}{H:List AObj}{dst:Option Tmp}{ty:TypeId}{pos:String}{after:Array Edge}{guard:Option (Nat×Bool)}
def aB9(d:Int):Option AV->Option Int
 |none=>some d
 |some (.lit (.int _ i))=>some i
 |_=>none
theorem aC6{w:World}{isSlice:Bool}{len cap:Nat}{lo hi mx:Option Value}{l h m:Int}
  (hl:(lo=none/\l=0)\/ ∃k,lo=some (.int k l)) (hh:(hi=none/\mx=none/\h=len)\/ ∃k,hi=some (.int k h)) (hm:(mx=none/\m=cap)\/ ∃k,mx=some (.int k m))
  (h0:0<=l) (h1:l<=h) (h2:h<=m) (h3:m<=cap) (h4:h<=cap):(Instr.sliceBounds isSlice len cap lo hi mx).run P w=.ok (l.toNat,h.toNat,m.toNat) w:=by
 have b0: ∀(k:IntKind) (i:Int) (y:Nat) (c:BoundsCode),0<=i->i<=(y:Int)->(Instr.sliceBound (.int k i) y c).run P w=.ok i.toNat w:=fun k i y c h0 h1=>run_sliceBound w k i y c h0 h1
 have hh0:0<=h:=by omega
 have hm0:0<=m:=by omega
 have hhm:h<=(m.toNat:Int):=by omega
 have hlh:l<=(h.toNat:Int):=by omega
 have hll:l<=(len:Int)->l.toNat<=len:=by omega
 rcases hl with⟨rfl,rfl⟩|⟨k1,rfl⟩<;>rcases hm with⟨rfl,rfl⟩|⟨k3,rfl⟩<;>rcases hh with⟨rfl,e2,rfl⟩|⟨k2,rfl⟩<;>(try cases e2)<;>
  simp only[Instr.sliceBounds,Sem.run_bind,Sem.run_pure,Result.andThen_ok,b0 _ _ _ _ h0 hlh,b0 _ _ _ _ hh0 hhm,b0 _ _ _ _ hh0 h4,b0 _ _ _ _ hm0 h3,Int.toNat_natCast,Int.toNat_zero]<;>
  first|rfl|(rw[b0 _ _ _ _ h0 h1];rfl)|(rw[b0 _ _ _ _ h0 (by omega)];rfl)|skip
def evO(env:Env)(x:Option Operand):Option AV:=x.map (ev env)
theorem ar4{n:Nat}{G:Gh}{a:Act}{w:World}(s:Sat n ds G env H a w){x:Option Operand}{d i:Int}(h:aB9 d (evO env x)=some i):
  (x.map a.eval=none/\x=none/\i=d)\/ ∃k,x.map a.eval=some (.int k i):=by
 cases x with
 |none=>simp only[evO,Option.map_none,aB9,Option.some.injEq] at h;exact .inl ⟨rfl,rfl,h.symm⟩
 |some x=>
  right
  have r:=s.ev x;simp only[evO,Option.map_some] at h;generalize ev env x=y at h r;unfold aB9 at h;split at h
  ·rename_i e;cases e
  ·rename_i e
   cases e
   cases h
   exact⟨_,by rw[Option.map_some,ac0 r]⟩
  ·cases h
def ones(cs:List AV):Prop:= ∀x∈cs,x.scalar=true
theorem bB0{x:AV}(h:x.scalar=true):x.flat=[x]/\x.okv=true:=by
 cases x<;>first|(simp[AV.scalar] at h;done)|exact⟨rfl,h⟩
theorem aW1{xs:List AV}(h:ones xs):aa2 xs=xs:=by
 induction xs with
 |nil=>rfl
 |cons x r ih=>rw[ag6,(bB0 (h x (aD9 ..))).1,ih fun y hy=>h y (aJ4 _ hy)];rfl
def bi0(L:Tab)(t:TypeId)(x:AV)(lo hi mx:Option AV):Option (Prop×AV):=
 match(L t).k,x with
 |.str,.str s=>match aB9 0 lo,aB9 s.length hi,mx with
  |some l,some h,none=>some (0<=l/\l<=h/\h<=s.length,.str ((s.drop l.toNat).take (h.toNat - l.toNat)))
  |_,_,_=>none
 |.slice e,.sl o z xs=>match aB9 0 lo,aB9 xs.length hi,mx with
  |some l,some h,none=>some (0<=l/\l<=h/\h<=xs.length/\z=(L e).size/\0 < z/\(L e).k≠ .other,.sl (if l=0/\h=xs.length then o else .sh) z ((xs.drop l.toNat).take (h.toNat - l.toNat)))
  |some l,some h,some (.lit (.int _ m))=>some (hi.isSome=true/\0<=l/\l<=h/\h<=xs.length/\m=h/\z=(L e).size/\0 < z/\(L e).k≠ .other,.sl .full z ((xs.drop l.toNat).take (h.toNat - l.toNat)))
  |_,_,_=>none
 |.slice e,.msl k off len cap=>match aB9 0 lo,aB9 len hi,mx with
  |some l,some h,none=>some (0<=l/\l<=h/\h<=cap/\(L e).k≠ .other,.msl k (if(cap:Int)=l then off else off+l.toNat*(L e).size) (h.toNat - l.toNat) (cap - l.toNat))
  |_,_,_=>none
 |.slice e,.mrow k len=>match aB9 0 lo,aB9 len hi,mx with
  |some l,some h,none=>some (0<=l/\l<=h/\h<=len/\(L e).k≠ .other,.any)
  |some l,some h,some (.lit (.int _ m))=>some (hi.isSome=true/\l=0/\h=len/\m=h/\(L e).k≠ .other,.msl k 0 len len)
  |_,_,_=>none
 |.arr n e,.mp k off=>match aB9 0 lo,aB9 n hi,mx with
  |some l,some h,none=>some (0<=l/\l<=h/\h<=n/\(L e).k≠ .other,.msl k (if(n:Int)=l then off else off+l.toNat*(L e).size) (h.toNat - l.toNat) (n - l.toNat))
  |_,_,_=>none
 |.arr n e,.ip (.agg cs)=>match aB9 0 lo,aB9 n hi,mx with
  |some l,some h,none=>some (0<=l/\(l<=h/\l < n)/\h<=n/\(L e).k≠ .other/\(L e).size=1/\cs.length=n/\ones cs,.sl .sh 1 ((cs.drop l.toNat).take (h.toNat - l.toNat)))
  |_,_,_=>none
 |_,_=>none
theorem cH6{G:Gh}{w:World}{o o':Own}{z:Nat}{xs:List AV}{ad:Option Addr}{len cap:Nat}(r:Rel G H w (.sl o z xs) (.slice ad len cap)){l h m:Nat}(hlh:l<=h)(hh:h<=xs.length)(hm:h<=m)
  (hmc:m<=cap) (ho': ∀k,o'≠ .tok k) (hf':o'=.full->m=h):Rel G H w (.sl o' z ((xs.drop l).take (h - l))) (.slice (if m=l then ad else ad.map (·.add (l*z))) (h - l) (m - l)):=by
 cases r with
 |sl _ _ _ _ _ _ val hl hcap huni hc hr hf ha ho=>
  have hflat:aa2 ((xs.drop l).take (h - l))=((aa2 xs).drop (l*z)).take ((h - l)*z):=by
   rw[bY9 (s:=z) _ (fun x hx=>(huni x (bc4 hx)).1),bx2 l fun x hx=>(huni x hx).1]
  have hsub: ∀(j:Nat) x,(aa2 ((xs.drop l).take (h - l)))[j]?=some x->(aa2 xs)[l*z+j]?=some x:=fun j x e=>by
   rw[hflat,aB1] at e;split at e
   ·rwa [aL2] at e
   ·cases e
  refine .sl o' z _ _ _ _ (fun j=>val (l*z+j)) (by rw[List.length_take,List.length_drop];omega) (by omega) (fun x hx=>huni x (bc4 (bg0 hx))) (fun j x e=>?_) (fun j x e=>hr _ x (hsub j x e)) (fun e=>by have:=hf' e;omega) (fun h0=>?_) (fun k e=>absurd e (ho' k))
  ·obtain⟨b,off,ea,hi,hw⟩:=hc _ x (hsub j x e)
   have hne:m≠l:=fun e'=>by
    have:h - l=0:=by omega
    rw[this] at e;simp[aa2] at e
   subst ea;exact⟨b,off+l*z,by rw[if_neg hne];simp[addr_add],by rw[bo3];exact hi,by rw[bo3];exact hw⟩
  ·have:=ha (by omega)
   split<;>simp[this]
theorem aM0{L:Tab}(hL:ac7 P L){w:World}{t e:TypeId}(hu:P.underlying t=some (.slice e))(he:(L e).k≠ .other){ad:Option Addr}{len cap:Nat}{lo hi mx:Option Value}{l h m:Int}
  (hb:(Instr.sliceBounds true len cap lo hi mx).run P w=.ok (l.toNat,h.toNat,m.toNat) w):
  (Instr.sliceAt t (.slice ad len cap) lo hi mx).run P w=.ok (.slice (if m.toNat=l.toNat then ad else ad.map (·.add (l.toNat*(L e).size))) (h.toNat - l.toNat) (m.toNat - l.toNat)) w:=by
 simp[Instr.sliceAt,Instr.slice,run_underlying hu,hb,ai9 hL he]
theorem cz3{L:Tab}(hL:ac7 P L){t:TypeId}{x:Operand}{lo hi mx:Option Operand}{p:Prop}{z:AV}(h:bi0 L t (ev env x) (evO env lo) (evO env hi) (evO env mx)=some (p,z)):
  Still P ⟨dst,.slice t x lo hi mx,ty,pos,after,guard⟩ env H p z:=fun hp _ _ G a w s=>by
 have rx:=s.ev x;unfold bi0 at h;split at h
 ·rename_i l hk ex
  have hu:=(hL t (by rw[hk];simp)).1
  rw[hk] at hu;rw[ex] at rx;have hx:=ak9 rx;split at h
  ·rename_i lv hv el eh em
   cases h
   have hmx:mx=none:=by cases mx with|none=>rfl|some _=>cases em
   subst hmx;have h1:=ar4 s el;have h2:=ar4 s eh;have hb:=aC6 (P:=P) (w:=w) (isSlice:=false) (len:=l.length) (cap:=l.length) (lo:=lo.map a.eval) (hi:=hi.map a.eval) (mx:=none) (l:=lv) (h:=hv) (m:=(l.length:Int))
    (h1.imp (fun h=>⟨h.1,h.2.2⟩) id) (h2.imp (fun h=>⟨h.1,rfl,h.2.2⟩) id) (.inl ⟨rfl,rfl⟩) hp.1 hp.2.1 hp.2.2 (bf9 _) hp.2.2
   refine⟨.string ((ByteArray.mk l.toArray).extract lv.toNat hv.toNat),?_,?_⟩
   ·simp[execOp,hx,Instr.sliceAt,Instr.slice,run_underlying hu,size_mk,hb]
   ·have:(ByteArray.mk l.toArray).extract lv.toNat hv.toNat=⟨((l.drop lv.toNat).take (hv.toNat - lv.toNat)).toArray⟩:=by
     apply ByteArray.ext
     simp[ByteArray.data_extract]
    rw[this];exact .str _
  ·cases h
 ·rename_i e o sz xs hk ex
  have hu:=(hL t (by rw[hk];simp)).1
  rw[hk] at hu;rw[ex] at rx;generalize hv':a.eval x=v at rx;have rx':=rx;cases rx with
  |sl _ _ _ ad len cap val hl hcap huni hc hr hf ha ho=>
  subst hl;split at h
  ·rename_i lv hv el eh em
   cases h
   have hmx:mx=none:=by cases mx with|none=>rfl|some _=>cases em
   subst hmx;obtain⟨p0,p1,p2,p3,p4,p5⟩:=hp;subst p3;have h1:=ar4 s el;have h2:=ar4 s eh;have hb:=aC6 (P:=P) (w:=w) (isSlice:=true) (len:=xs.length) (cap:=cap) (lo:=lo.map a.eval) (hi:=hi.map a.eval) (mx:=none) (l:=lv) (h:=hv) (m:=(cap:Int))
    (h1.imp (fun h=>⟨h.1,h.2.2⟩) id) (h2.imp (fun h=>⟨h.1,rfl,h.2.2⟩) id) (.inl ⟨rfl,rfl⟩) p0 p1 (by omega) (bf9 _) (by omega)
   refine⟨_,by simp[execOp,hv',aM0 hL hu p5 hb];rfl,?_⟩
   by_cases hkeep:lv=0/\hv=xs.length
   ·obtain⟨rfl,rfl⟩:=hkeep
    have e0:(if cap=(0:Int).toNat then ad else ad.map (·.add ((0:Int).toNat*(L e).size)))=ad:=by
     split
     ·rfl
     ·cases ad<;>simp[Addr.add]
    simp only[true_and,if_true,Int.toNat_natCast,Int.toNat_zero,List.drop_zero,aO5,aL1];simp only[Int.toNat_zero] at e0;rw[e0];exact rx'
   ·rw[if_neg hkeep]
    exact cH6 rx' (by omega) (by omega) (by simp;omega) (by simp) (fun k e=>by cases e) (fun e=>by cases e)
  ·rename_i lv hv ki mv el eh em
   cases h
   obtain⟨ph,p0,p1,p2,p3,p4,p5,p6⟩:=hp;subst p4;subst p3;have h1:=ar4 s el;have h2:=ar4 s eh;have h3: ∃k,mx.map a.eval=some (.int k mv):=by
    have:=ar4 (d:=0) s (show aB9 0 (evO env mx)=some mv by rw[em];rfl)
    rcases this with⟨_,e',_⟩|h
    ·subst e';cases em
    ·exact h
   have h2':(hi.map a.eval=none/\mx.map a.eval=none/\mv=(xs.length:Int))\/ ∃k,hi.map a.eval=some (.int k mv):=by
    rcases h2 with⟨e1,e2,e3⟩|h
    ·exfalso
     subst e2;simp[evO] at ph
    ·exact .inr h
   have hb:=aC6 (P:=P) (w:=w) (isSlice:=true) (len:=xs.length) (cap:=cap) (lo:=lo.map a.eval) (hi:=hi.map a.eval) (mx:=mx.map a.eval) (l:=lv) (h:=mv) (m:=mv)
    (h1.imp (fun h=>⟨h.1,h.2.2⟩) id) h2' (.inr h3) p0 p1 (bf9 _) (by omega) (by omega)
   refine⟨_,by simp[execOp,hv',aM0 hL hu p6 hb];rfl,?_⟩
   exact cH6 rx' (by omega) (by omega) (xq0 _) (by omega) (fun k e=>by cases e) (fun _=>rfl)
  ·cases h
 ·rename_i e k off len cap hk ex
  have hu:=(hL t (by rw[hk];simp)).1
  rw[hk] at hu;rw[ex] at rx;generalize hv':a.eval x=v at rx;cases rx with
  |msl _ _ _ _ o hk' ho hcap=>
  split at h
  ·rename_i lv hv el eh em
   cases h
   have hmx:mx=none:=by cases mx with|none=>rfl|some _=>cases em
   subst hmx;obtain⟨p0,p1,p2,p5⟩:=hp;have h1:=ar4 s el;have h2:=ar4 s eh;have hb:=aC6 (P:=P) (w:=w) (isSlice:=true) (len:=len) (cap:=cap) (lo:=lo.map a.eval) (hi:=hi.map a.eval) (mx:=none) (l:=lv) (h:=hv) (m:=(cap:Int))
    (h1.imp (fun h=>⟨h.1,h.2.2⟩) id) (h2.imp (fun h=>⟨h.1,rfl,h.2.2⟩) id) (.inl ⟨rfl,rfl⟩) p0 p1 (by omega) (bf9 _) (by omega)
   refine⟨_,by simp[execOp,hv',aM0 hL hu p5 hb];rfl,?_⟩
   have e0:(if cap=lv.toNat then some (Addr.mk (G.blk k) off none) else(some (Addr.mk (G.blk k) off none)).map (·.add (lv.toNat*(L e).size)))=some ⟨G.blk k,if(cap:Int)=lv then off else off+lv.toNat*(L e).size,none⟩:=by
    by_cases hc:(cap:Int)=lv
    ·rw[if_pos hc,if_pos (by omega)]
    ·rw[if_neg hc,if_neg (by omega)];simp[addr_add]
   simp only[Option.map_some] at e0⊢;rw[e0];exact .msl _ _ _ _ o hk' ho (by omega)
  ·cases h
 ·rename_i e k len hk ex
  have hu:=(hL t (by rw[hk];simp)).1
  rw[hk] at hu;rw[ex] at rx;generalize hv':a.eval x=v at rx;cases rx with
  |mrow _ _ o hk' ho hcap=>
  split at h
  ·rename_i lv hv el eh em
   cases h
   have hmx:mx=none:=by cases mx with|none=>rfl|some _=>cases em
   subst hmx;obtain⟨p0,p1,p2,p5⟩:=hp;have h1:=ar4 s el;have h2:=ar4 s eh;have hb:=aC6 (P:=P) (w:=w) (isSlice:=true) (len:=len) (cap:=(G.own k).2) (lo:=lo.map a.eval) (hi:=hi.map a.eval) (mx:=none) (l:=lv) (h:=hv) (m:=((G.own k).2:Int))
    (h1.imp (fun h=>⟨h.1,h.2.2⟩) id) (h2.imp (fun h=>⟨h.1,rfl,h.2.2⟩) id) (.inl ⟨rfl,rfl⟩) p0 p1 (by omega) (bf9 _) (by omega)
   exact⟨_,by simp[execOp,hv',aM0 hL hu p5 hb];rfl,.any _⟩
  ·rename_i lv hv ki mv el eh em
   cases h
   obtain⟨ph,p0,p1,p2,p6⟩:=hp;subst p2;subst p1;have h1:=ar4 s el;have h2:=ar4 s eh;have h3: ∃k,mx.map a.eval=some (.int k (len:Int)):=by
    have:=ar4 (d:=0) s (show aB9 0 (evO env mx)=some (len:Int) by rw[em];rfl)
    rcases this with⟨_,e',_⟩|h
    ·subst e';cases em
    ·exact h
   have h2':(hi.map a.eval=none/\mx.map a.eval=none/\(len:Int)=(len:Int))\/ ∃k,hi.map a.eval=some (.int k (len:Int)):=by
    rcases h2 with⟨e1,e2,e3⟩|h
    ·exfalso
     subst e2;simp[evO] at ph
    ·exact .inr h
   have hb:=aC6 (P:=P) (w:=w) (isSlice:=true) (len:=len) (cap:=(G.own k).2) (lo:=lo.map a.eval) (hi:=hi.map a.eval) (mx:=mx.map a.eval) (l:=lv) (h:=(len:Int)) (m:=(len:Int))
    (h1.imp (fun h=>⟨h.1,h.2.2⟩) id) (h2'.imp (fun h=>⟨h.1,h.2.1,h.2.2⟩) id) (.inr h3) (by omega) (by omega) (bf9 _) (by omega) (by omega)
   refine⟨_,by simp[execOp,hv',aM0 hL hu p6 hb];rfl,?_⟩
   subst p0;have e0:(if len=(0:Int).toNat then some (Addr.mk (G.blk k) 0 none) else(some (Addr.mk (G.blk k) 0 none)).map (·.add ((0:Int).toNat*(L e).size)))=some ⟨G.blk k,0,none⟩:=by
    split
    ·rfl
    ·simp[addr_add]
   simp only[Option.map_some] at e0⊢;rw[e0];exact .msl _ _ _ _ o hk' ho (by omega)
  ·cases h
 ·rename_i n e k off hk ex
  have hu:=(hL t (by rw[hk];simp)).1
  rw[hk] at hu;rw[ex] at rx;generalize hv':a.eval x=v at rx;cases rx with
  |mp _ _ o hk' ho=>
  split at h
  ·rename_i lv hv el eh em
   cases h
   have hmx:mx=none:=by cases mx with|none=>rfl|some _=>cases em
   subst hmx;obtain⟨p0,p1,p2,p5⟩:=hp;have h1:=ar4 s el;have h2:=ar4 s eh;have hb:=aC6 (P:=P) (w:=w) (isSlice:=false) (len:=n) (cap:=n) (lo:=lo.map a.eval) (hi:=hi.map a.eval) (mx:=none) (l:=lv) (h:=hv) (m:=(n:Int))
    (h1.imp (fun h=>⟨h.1,h.2.2⟩) id) (h2.imp (fun h=>⟨h.1,rfl,h.2.2⟩) id) (.inl ⟨rfl,rfl⟩) p0 p1 (by omega) (bf9 _) (by omega)
   refine⟨_,by simp[execOp,hv',Instr.sliceAt,run_underlying hu,Instr.sureAddr,hb,ai9 hL p5];rfl,?_⟩
   have e0:(if n=lv.toNat then Addr.mk (G.blk k) off none else(Addr.mk (G.blk k) off none).add (lv.toNat*(L e).size))=⟨G.blk k,if(n:Int)=lv then off else off+lv.toNat*(L e).size,none⟩:=by
    by_cases hc:(n:Int)=lv
    ·rw[if_pos hc,if_pos (by omega)]
    ·rw[if_neg hc,if_neg (by omega)];simp[addr_add]
   rw[e0];exact .msl _ _ _ _ o hk' ho (by omega)
  ·cases h
 ·rename_i n e cs hk ex
  have hu:=(hL t (by rw[hk];simp)).1
  rw[hk] at hu;rw[ex] at rx;generalize hv':a.eval x=v at rx;cases rx with
  |ip _ b off val hc hr=>
  split at h
  ·rename_i lv hv el eh em
   cases h
   have hmx:mx=none:=by cases mx with|none=>rfl|some _=>cases em
   subst hmx;obtain⟨p0,p1,p2,p5,p6,p7,p8⟩:=hp;have h1:=ar4 s el;have h2:=ar4 s eh;have hb:=aC6 (P:=P) (w:=w) (isSlice:=false) (len:=n) (cap:=n) (lo:=lo.map a.eval) (hi:=hi.map a.eval) (mx:=none) (l:=lv) (h:=hv) (m:=(n:Int))
    (h1.imp (fun h=>⟨h.1,h.2.2⟩) id) (h2.imp (fun h=>⟨h.1,rfl,h.2.2⟩) id) (.inl ⟨rfl,rfl⟩) p0 (by omega) (by omega) (bf9 _) (by omega)
   have hsz:(sizeOf e).run P w=.ok 1 w:=by rw[ai9 hL p5,p6]
   refine⟨.slice (some ⟨b,off+lv.toNat,none⟩) (hv.toNat - lv.toNat) (n - lv.toNat),by simp[execOp,hv',Instr.sliceAt,run_underlying hu,Instr.sureAddr,hb,hsz,addr_add];omega,?_⟩
   have hxs:ones ((cs.drop lv.toNat).take (hv.toNat - lv.toNat)):=fun x hx=>p8 x (bc4 (bg0 hx))
   have hat: ∀(j:Nat) x,((cs.drop lv.toNat).take (hv.toNat - lv.toNat))[j]?=some x->cs[lv.toNat+j]?=some x:=fun j x e=>by
    rw[aB1] at e;split at e
    ·rwa [aL2] at e
    ·cases e
   refine .sl .sh 1 _ _ _ _ (fun j=>val (lv.toNat+j)) (by rw[List.length_take,List.length_drop];omega) (by omega) (fun x hx=>?_) (fun j x e=>?_) (fun j x e=>?_) (fun e=>by cases e) (fun _=>rfl) (fun k e=>by cases e)
   ·obtain⟨e1,e2⟩:=bB0 (hxs x hx)
    exact⟨by rw[e1];rfl,e2⟩
   ·rw[aW1 hxs] at e
    obtain⟨q1,q2⟩:=hc _ x (hat j x e);rw[<-bo3] at q1 q2;exact⟨b,off+lv.toNat,rfl,q1,q2⟩
   ·rw[aW1 hxs] at e
    exact hr _ x (hat j x e)
  ·cases h
 ·cases h
end
end V
end
section
namespace V
open Go
variable {ds:List Deferred}
section
variable {P:Program}{env:Env}{H:List AObj}{dst:Option Tmp}{ty:TypeId}{pos:String}{after:Array Edge}{guard:Option (Nat×Bool)}
theorem bA5{L:Tab}(hL:ac7 P L){t:TypeId}{fs:List (Nat×TypeId)}(hk:(L t).k=.struct fs){f o:Nat}{ft:TypeId}(hf:fs[f]?=some (o,ft)):
  ∃a fl,P.underlying t=some (.struct a)/\a[f]?=some fl/\fl.offset=o/\fl.type=ft:=by
 have h:=(hL t (by rw[hk];simp)).1
 rw[hk] at h;obtain⟨a,hu,hm⟩:=h;rw[<-hm,xq7] at hf;cases e:a.toList[f]? with
 |none=>rw[e] at hf;cases hf
 |some fl=>
  rw[e] at hf;cases hf
  exact⟨a,fl,hu,by simpa using e,rfl,rfl⟩
def aG9(L:Tab)(t:TypeId)(x:AV)(f:Nat):Option (Prop×AV):=
 match(L t).k with
 |.struct fs=>match fs[f]? with
  |some (o,ft)=>match x with
   |.ip y=>some ((L ft).k≠ .other/\(L ft).size≠0/\aV3 (L ft) y.flat o,.ip (aA8 (L ft) y.flat o))
   |.mp k off=>some ((L ft).k≠ .other/\(L ft).size≠0,.mp k (off+o))
   |_=>none
  |none=>none
 |_=>none
theorem bT5{L:Tab}(hL:ac7 P L){t:TypeId}{x:Operand}{f:Nat}{p:Prop}{z:AV}(h:aG9 L t (ev env x) f=some (p,z)):
  Still P ⟨dst,.fieldAddr t x f,ty,pos,after,guard⟩ env H p z:=fun hp _ _ G a w s=>by
 have rx:=s.ev x;unfold aG9 at h;split at h
 ·rename_i fs hk
  split at h
  ·rename_i o ft hf
   obtain⟨ar,fl,hu,hfl,rfl,rfl⟩:=bA5 hL hk hf;split at h
   ·rename_i y ex
    rw[ex] at rx;cases h
    obtain⟨h1,h2,h3⟩:=hp;generalize hv:a.eval x=v at rx;cases rx with
    |ip _ b off val hc hr=>
     refine⟨.pointer (some ⟨b,off+fl.offset,none⟩),?_,bl4 fun j u hj=>?_⟩
     ·simp[execOp,hv,Instr.fieldAt,run_underlying hu,hfl,Instr.sureAddr,fieldPlace,ai9 hL h1,h2,addr_add]
     ·have hj':y.flat[fl.offset+j]?=some u:=by
       unfold aA8 aV3 at*;cases hg:(L fl.type).k.agg with
       |true=>
        simp only[hg,if_true,AV.flat] at hj;rw[aB1] at hj;split at hj
        ·rwa [aL2] at hj
        ·cases hj
       |false=>
        simp only[hg,Bool.false_eq_true,if_false] at hj h3;obtain⟨_,h4,h5⟩:=h3;rw[h5] at hj;cases j with
        |zero=>simp only[List.getElem?_cons_zero,Option.some.injEq] at hj;rw[<-hj,aD8];simp[List.getD,xq1 h4]
        |succ j=>simp at hj
      rw[bo3];exact⟨(hc _ u hj').1,_,(hc _ u hj').2,hr _ u hj'⟩
   ·rename_i k off ex
    rw[ex] at rx;cases h
    obtain⟨h1,h2⟩:=hp;generalize hv:a.eval x=v at rx;cases rx with
    |mp _ _ o hk' ho=>
     refine⟨.pointer (some ⟨G.blk k,off+fl.offset,none⟩),?_,.mp _ _ o hk' ho⟩;simp[execOp,hv,Instr.fieldAt,run_underlying hu,hfl,Instr.sureAddr,fieldPlace,ai9 hL h1,h2,addr_add]
   ·cases h
  ·cases h
 ·cases h
theorem cl7{G:Gh}{w:World}{cs:List AV}{arr:Array Value}(hl:arr.size=cs.length)(hr: ∀(j:Nat) (x:AV) (v:Value),cs[j]?=some x->arr[j]?=some v->Rel G H w x v){l:LT}{o:Nat}(ho:aV3 l cs o):
  Rel G H w (aA8 l cs o) (if l.k.agg then .agg (arr.extract o (o+l.size)) else arr.getD o undef):=by
 unfold aA8 aV3 at*;obtain⟨_,h2⟩:=ho;cases hg:l.k.agg with
 |true=>
  simp only[hg,if_true] at h2⊢;refine .agg _ _ (by simp;omega) fun j x v e e'=>?_
  rw[aB1] at e;split at e
  ·rw[aL2] at e
   refine hr _ x v e ?_;simp only[Array.getElem?_extract] at e';split at e'
   ·exact e'
   ·cases e'
  ·cases e
 |false=>
  simp only[hg,Bool.false_eq_true,if_false] at h2⊢;have ho:o < arr.size:=by omega
  exact hr o _ _ (by simp[List.getD,xq1 h2.1]) (by simp[ap3,xq2 ho])
theorem cl2{L:Tab}(hL:ac7 P L){t:TypeId}{w:World}{arr:Array Value}{o:Nat}(ho:(L t).k≠ .other)(h2:(L t).k.agg=false->o < arr.size):
  (part t arr o).run P w=.ok (if(L t).k.agg then .agg (arr.extract o (o+(L t).size)) else arr.getD o undef) w:=by
 simp only[part,Sem.run_bind,b79 hL ho,Result.andThen_ok];cases hg:(L t).k.agg with
 |true=>simp[ai9 hL ho]
 |false=>
  have:=h2 hg;simp[xq2 this,ap3]
def br7(L:Tab)(t:TypeId)(x:AV)(f:Nat):Option (Prop×AV):=
 match(L t).k with
 |.struct fs=>match fs[f]? with
  |some (o,ft)=>some (x=.agg x.flat/\aV3 (L ft) x.flat o,aA8 (L ft) x.flat o)
  |none=>none
 |_=>none
theorem cz6{L:Tab}(hL:ac7 P L){t:TypeId}{x:Operand}{f:Nat}{p:Prop}{z:AV}(h:br7 L t (ev env x) f=some (p,z)):
  Still P ⟨dst,.field t x f,ty,pos,after,guard⟩ env H p z:=fun hp _ _ G a w s=>by
 have rx:=s.ev x;unfold br7 at h;split at h
 ·rename_i fs hk
  split at h
  ·rename_i o ft hf
   obtain⟨ar,fl,hu,hfl,rfl,rfl⟩:=bA5 hL hk hf;cases h
   obtain⟨h1,h2⟩:=hp;rw[h1] at rx;generalize hv:a.eval x=v at rx;generalize (ev env x).flat=cs at rx h2;cases rx with
   |agg _ arr hl hr=>
    have h3:(L fl.type).k.agg=false->fl.offset < arr.size:=fun hg=>by
     have:=h2.2;rw[hg] at this;simp at this
     omega
    exact⟨_,by simp[execOp,hv,Instr.field,run_underlying hu,hfl,asAgg,cl2 hL h2.1 h3],cl7 hl hr h2⟩
  ·cases h
 ·cases h
def br5(L:Tab)(t:TypeId)(x:AV)(i:AV):Option (Prop×AV):=
 match(L t).k,x,i with
 |.str,.str l,.lit (.int _ i)=>some (0<=i/\i < l.length,.int .u8 ((l.getD i.toNat 0).toNat:Int))
 |.arr n e,.agg cs,.lit (.int _ i)=>some (0<=i/\i < n/\aV3 (L e) cs (i.toNat*(L e).size),aA8 (L e) cs (i.toNat*(L e).size))
 |_,_,_=>none
theorem cz4{L:Tab}(hL:ac7 P L){t:TypeId}{x i:Operand}{p:Prop}{z:AV}(h:br5 L t (ev env x) (ev env i)=some (p,z)):
  Still P ⟨dst,.index t x i,ty,pos,after,guard⟩ env H p z:=fun hp _ _ G a w s=>by
 have rx:=s.ev x;have ri:=s.ev i;unfold br5 at h;split at h
 ·rename_i l k iv hk ex ei
  have hu:=(hL t (by rw[hk];simp)).1
  rw[hk] at hu;rw[ex] at rx;rw[ei] at ri;have hi:=ac0 ri;have hx:=ak9 rx;cases h
  have hlt:iv.toNat < l.length:=by omega
  refine⟨_,?_,.lit _⟩;have h2:(0<=iv/\iv < ((ByteArray.mk l.toArray).size:Nat)):=⟨hp.1,hp.2⟩;simp only[execOp,hx,hi,run_index_string w t _ _ _ hu,Sem.run_bind,dif_pos h2,Result.andThen_ok,Sem.run_pure];congr 2
  simp only[List.getD,xq1 hlt,Option.getD_some];rfl
 ·rename_i n e cs k iv hk ex ei
  have hu:=(hL t (by rw[hk];simp)).1
  rw[hk] at hu;rw[ex] at rx;rw[ei] at ri;have hi:=ac0 ri;cases h
  obtain⟨h1,h2,h3⟩:=hp;generalize hv:a.eval x=v at rx;cases rx with
  |agg _ arr hl hr=>
   have h4:(L e).k.agg=false->iv.toNat*(L e).size < arr.size:=fun hg=>by
    have:=h3.2;rw[hg] at this;simp at this
    omega
   exact⟨_,by simp[execOp,hv,hi,Instr.index,asIntOf,run_underlying hu,h1,h2,ai9 hL h3.1,cl2 hL h3.1 h4],cl7 hl hr h3⟩
 ·cases h
def o6(b:UInt8):AV:=.int .u8 b.toNat
def d48(r:Int):AV:=.lit (.int .i32 r)
def cL1(l:List UInt8):AV:=.sl .sh 1 (l.map o6)
def bS4:AV->UInt8
 |.lit (.int .u8 n)=>UInt8.ofNat n.toNat
 |_=>0
def ax3(xs:List AV):List UInt8:=xs.map bS4
def isBytes(xs:List AV):Prop:=xs=(ax3 xs).map o6
theorem cb9(b:UInt8):bS4 (o6 b)=b:=by simp[bS4,o6]
theorem bo6(l:List UInt8):ax3 (l.map o6)=l:=by
 simp only[ax3,aT4];rw[show bS4∘o6=id from funext cb9,List.map_id]
theorem bK5(l:List UInt8):isBytes (l.map o6):=by unfold isBytes;rw[bo6]
def bf0(s:List UInt8):List AV:=(Conv.runesFrom ⟨s.toArray⟩ s.length 0 #[]).toList.map ap0
def cf6(L:Tab)(src dst:TypeId)(x:AV):Option (Prop×AV):=
 match(L src).k,(L dst).k,x with
 |.int _,.int k,.lit (.int _ n)=>some (True,.int k (k.wrap n))
 |.int _,.str,.lit (.int _ n)=>some (0<=n/\n < 128,.str [UInt8.ofNat n.toNat])
 |.str,.str,.str l=>some (True,.str l)
 |.str,.slice e,.str l=>match(L e).k with
  |.int .u8=>some (True,cL1 l)
  |.int .i32=>some (True,.sl .sh 1 (bf0 l))
  |_=>none
 |.slice e,.str,.sl _ _ xs=>match(L e).k with
  |.int .u8=>some (isBytes xs,.str (ax3 xs))
  |_=>none
 |_,_,_=>none
theorem au8{α:Type}(f:α->AV)(h: ∀x,(f x).flat=[f x]): ∀l:List α,aa2 (l.map f)=l.map f
 |[]=>rfl
 |x::l=>by rw[List.map_cons,ag6,h x,au8 f h l];rfl
theorem bw9: ∀(l acc:List UInt8),(l.map fun b=>(b.toNat:Int)).foldl (fun(r:ByteArray) n=>r.push (UInt8.ofNat n.toNat)) ⟨acc.toArray⟩=⟨(acc++l).toArray⟩
 |[],acc=>by simp
 |b::l,acc=>by
  have h1:(ByteArray.mk acc.toArray).push (UInt8.ofNat ((b.toNat:Int)).toNat)=⟨(acc++[b]).toArray⟩:=by apply ByteArray.ext;simp[ByteArray.push]
  rw[List.map_cons,List.foldl_cons,h1,bw9 l (acc++[b])];simp
theorem cz9{G:Gh}{w:World}{o:Own}{z:Nat}{xs:List AV}{v:Value}(r:Rel G H w (.sl o z xs) v)(hb:isBytes xs):(Conv.bytesToString v).run P w=.ok (.string ⟨(ax3 xs).toArray⟩) w:=by
 unfold isBytes at hb;generalize ax3 xs=l at hb;subst hb;rcases bb9 l.length with h0|h0
 ·have:l=[]:=aB0 h0
  subst this;cases r with
  |sl _ _ _ ad len cap val hl=>
   simp at hl
   subst hl;cases ad with
   |none=>simp[Conv.bytesToString];rfl
   |some ad=>
    rw[run_bytesToString (P:=P) w ad 0 cap [] (by simp[loadCells,loadCellsFrom])]
    simp;rfl
 ·have huni:=r.sl_uni
  have hz:z=1:=by
   have hm:o6 (l[0]'h0)∈l.map o6:=xq9.2 ⟨_,aT3 h0,rfl⟩;have:=huni _ hm;simpa [o6,AV.flat] using this.symm
  subst hz;obtain⟨b,off,cap,rfl,_,hc⟩:=r.sl_addr (by omega) (by simpa using h0)
  have hfl:=au8 o6 (fun _=>rfl) l
  have hld:(loadCells ⟨b,off,none⟩ (l.map o6).length).run P w=.ok ((l.map fun b=>(b.toNat:Int)).map (Value.int .u8)).toArray w:=by
   have:=run_loadCells_list (P:=P) w ⟨b,off,none⟩ ((l.map fun b=>(b.toNat:Int)).map (Value.int .u8)) (fun j v e=>by
    rw[addr_add];have hj:j < l.length:=by simpa using aa0 e
    obtain⟨_,u,hu,hr⟩:=hc j (o6 l[j]) (by rw[hfl];simp[hj])
    have:=ac0 hr;simp[hj] at e
    rw[hu,this,<-e])
   simpa using this
  rw[run_bytesToString (P:=P) w _ _ cap _ hld];have:=bw9 l [];rw[List.nil_append] at this;rw[<-this];rfl
theorem aV6{w:World}{G:Gh}{H:List AObj}(hi:HInv G H w)(arr:Array Value)(e:TypeId)(fr:Nat×Nat){w':World}(hw:More w w')(hsz:w'.heap.size=w.heap.size):
  HInv (aF8 G w (w'.alloc (.cells arr e fr))) H (w'.alloc (.cells arr e fr))/\Step G H w (aF8 G w (w'.alloc (.cells arr e fr))) H (w'.alloc (.cells arr e fr))/\
  (∀j,(aF8 G w (w'.alloc (.cells arr e fr))).imm w.heap.size j)/\(∀j,(w'.alloc (.cells arr e fr)).cell? ⟨w.heap.size,j,none⟩=arr[j]?):=by
 have hm:=hw.alloc (.cells arr e fr);refine⟨hm.inv hi,hm.step hi,fun j=>.inr ⟨xq0 _,by simp;omega⟩,fun j=>?_⟩
 have:(w'.alloc (.cells arr e fr)).heap[w.heap.size]?=some (.cells arr e fr):=by
  show (w'.heap.push (.cells arr e fr))[w.heap.size]?=_
  rw[<-hsz];simp
 simp[World.cell?,this]
theorem cR4{L:Tab}(hL:ac7 P L){src d:TypeId}{x:Operand}{p:Prop}{z:AV}(h:cf6 L src d (ev env x)=some (p,z)):
  Quiet P ⟨dst,.convert src d x,ty,pos,after,guard⟩ env H p z:=fun hp _ _ G a w s=>by
 have rx:=s.ev x;unfold cf6 at h;split at h
 ·rename_i k0 k k1 n h1 h2 ex
  have hs:=(hL src (by rw[h1];simp)).1
  have hd:=(hL d (by rw[h2];simp)).1
  rw[h1] at hs;rw[h2] at hd;rw[ex] at rx;have hx:=ac0 rx;cases h
  refine⟨.int k (k.wrap n),w,G,?_,s.inv,.refl _ _ _,.lit _⟩;simp only[ao0] at hs hd;simp[execOp,hx,convert,run_underlying hs,run_underlying hd,Conv.intToInt]
 ·rename_i k0 k1 n h1 h2 ex
  have hs:=(hL src (by rw[h1];simp)).1
  have hd:=(hL d (by rw[h2];simp)).1
  rw[h1] at hs;rw[h2] at hd;rw[ex] at rx;have hx:=ac0 rx;cases h
  have he:Utf8.encode n=⟨[UInt8.ofNat n.toNat].toArray⟩:=by
   have hv:Utf8.valid n=true:=by simp[Utf8.valid];omega
   unfold Utf8.encode;simp only[hv,if_true,if_pos (show n.toNat < 128 by omega)]
  refine⟨.string ⟨[UInt8.ofNat n.toNat].toArray⟩,w,G,?_,s.inv,.refl _ _ _,.str _⟩;simp only[ao0] at hs hd;simp[execOp,hx,convert,run_underlying hs,run_underlying hd,Conv.intToString,he]
 ·rename_i l h1 h2 ex
  have hs:=(hL src (by rw[h1];simp)).1
  have hd:=(hL d (by rw[h2];simp)).1
  rw[h1] at hs;rw[h2] at hd;rw[ex] at rx;have hx:=ak9 rx;cases h
  refine⟨_,w,G,?_,s.inv,.refl _ _ _,.str _⟩;simp only[ao0] at hs hd;simp[execOp,hx,convert,run_underlying hs,run_underlying hd]
 ·rename_i e l h1 h2 ex
  have hs:=(hL src (by rw[h1];simp)).1
  have hd:=(hL d (by rw[h2];simp)).1
  rw[h1] at hs;rw[h2] at hd;simp only[ao0] at hs hd;rw[ex] at rx;have hx:=ak9 rx;split at h
  ·rename_i h3
   have he:=(hL e (by rw[h3];simp)).1
   rw[h3] at he;simp only[ao0] at he;cases h
   have hrun:=run_bytes_of_string (P:=P) w src d e ⟨l.toArray⟩ hs hd he;obtain⟨hi,hst,him,hce⟩:=aV6 s.inv (bytesRow ⟨l.toArray⟩ (grownCap w l.length 0 e)) e ((bytesRow ⟨l.toArray⟩ (grownCap w l.length 0 e)).size,(bytesRow ⟨l.toArray⟩ (grownCap w l.length 0 e)).size+1) (More.refl w).drew rfl;refine⟨_,_,_,by simp[execOp,hx];rw[hrun];rfl,hi,hst,?_⟩
   refine bl3 (by simp[size_mk]) (grownCap_ge w _ 0 e) (fun x hx=>?_) (fun j y hj=>⟨by rw[Nat.zero_add];exact him j,?_⟩)
   ·obtain⟨b,_,rfl⟩:=xq9.1 hx
    exact⟨rfl,rfl⟩
   ·rw[au8 o6 (fun _=>rfl)] at hj
    have hlt:j < l.length:=by simpa using aa0 hj
    simp only[xq7,xq1 hlt,Option.map_some,Option.some.injEq] at hj;subst hj;refine⟨.int .u8 l[j].toNat,?_,.lit _⟩;rw[Nat.zero_add,hce j];simp[bytesRow,hlt,cN8]
  ·rename_i h3
   have he:=(hL e (by rw[h3];simp)).1
   rw[h3] at he;simp only[ao0] at he;cases h
   have hrun:(convert src d (.string ⟨l.toArray⟩)).run P w=.ok (.slice (some ⟨w.heap.size,0,none⟩) (Conv.runesFrom ⟨l.toArray⟩ l.length 0 #[]).size (grownCap w (Conv.runesFrom ⟨l.toArray⟩ l.length 0 #[]).size 0 e))
     (w.drew.alloc (.cells (Conv.runesFrom ⟨l.toArray⟩ l.length 0 #[]++Array.replicate (grownCap w (Conv.runesFrom ⟨l.toArray⟩ l.length 0 #[]).size 0 e - (Conv.runesFrom ⟨l.toArray⟩ l.length 0 #[]).size) (.int .i32 0)) e)):=by
    simp[convert,run_underlying hs,run_underlying hd,run_underlying he,Conv.stringToRunes,Question.forced,newRow,grownCap,size_mk]
   obtain⟨hi,hst,him,hce⟩:=aV6 s.inv (Conv.runesFrom ⟨l.toArray⟩ l.length 0 #[]++Array.replicate (grownCap w (Conv.runesFrom ⟨l.toArray⟩ l.length 0 #[]).size 0 e - (Conv.runesFrom ⟨l.toArray⟩ l.length 0 #[]).size) (.int .i32 0)) e (0,0) (More.refl w).drew rfl;have hone: ∀(k i:Nat) (acc:Array Value),(∀v∈acc,∃n,v=.int .i32 n)-> ∀v∈Conv.runesFrom ⟨l.toArray⟩ k i acc,∃n,v=.int .i32 n:=by
    intro k;induction k with
    |zero=>intro i acc h;simpa [Conv.runesFrom] using h
    |succ k ih=>
     intro i acc h;unfold Conv.runesFrom;split
     ·refine ih _ _ fun v hv=>?_
      rcases Array.mem_push.1 hv with hv|hv
      ·exact h v hv
      ·exact⟨_,hv⟩
     ·exact h
   have hone':=hone l.length 0 #[] (by simp)
   have hflat:aa2 (bf0 l)=bf0 l:=by
    have: ∀xs:List Value,(∀v∈xs,∃n,v=.int .i32 n)->aa2 (xs.map ap0)=xs.map ap0:=by
     intro xs;induction xs with
     |nil=>intro _;rfl
     |cons v xs ih=>
      intro h;obtain⟨n,rfl⟩:=h v (aD9 ..);rw[List.map_cons,ag6,ih fun u hu=>h u (aJ4 _ hu)]
      rfl
    exact this _ fun v hv=>hone' v (aT5.1 hv)
   refine⟨_,_,_,by simp[execOp,hx];rw[hrun];rfl,hi,hst,?_⟩
   refine bl3 (by simp[bf0]) (grownCap_ge w _ 0 e) (fun x hx=>?_) (fun j y hj=>⟨by rw[Nat.zero_add];exact him j,?_⟩)
   ·obtain⟨v,hv,rfl⟩:=xq9.1 hx
    obtain⟨n,rfl⟩:=hone' v (aT5.1 hv);exact⟨rfl,rfl⟩
   ·rw[hflat] at hj
    have hlt:j < (Conv.runesFrom ⟨l.toArray⟩ l.length 0 #[]).size:=by simpa [bf0] using aa0 hj
    refine⟨(Conv.runesFrom ⟨l.toArray⟩ l.length 0 #[])[j],?_,?_⟩
    ·rw[Nat.zero_add,hce j]
     simp[cN8,hlt]
    ·simp only[bf0,xq7,aL0,xq2 hlt,Option.map_some,Option.some.injEq] at hj
     subst hj;exact aG5 _
  ·cases h
 ·rename_i e o z' xs h1 h2 ex
  have hs:=(hL src (by rw[h1];simp)).1
  have hd:=(hL d (by rw[h2];simp)).1
  rw[h1] at hs;rw[h2] at hd;simp only[ao0] at hs hd;rw[ex] at rx;split at h
  ·rename_i h3
   have he:=(hL e (by rw[h3];simp)).1
   rw[h3] at he;simp only[ao0] at he;cases h
   have hrun:=cz9 (P:=P) rx hp;generalize hv:a.eval x=v at rx hrun;cases rx with
   |sl _ _ _ ad len cap val hl=>
    refine⟨_,w,G,?_,s.inv,.refl _ _ _,.str _⟩;simp[execOp,hv,run_convert_bytes_string w src d e ad len cap hs he hd,hrun]
  ·cases h
 ·cases h
end
end V
end
section
namespace V
open Go
variable {ds:List Deferred}
theorem bJ6{x:AV}(h:x.scalar=true):x.flat=[x]:=by cases x<;>first|rfl|(simp[AV.scalar] at h;done)
theorem cQ4{x:AV}(h:x.scalar=true):x.okv=true:=by cases x<;>first|exact h|(simp[AV.scalar] at h;done)
theorem aU2{G:Gh}{H:List AObj}{w:World}{x:AV}{v:Value}(r:Rel G H w x v)(h:x.scalar=true):v.cells= #[v]/\v.oneCell'=true/\x.flat=[x]:=by
 cases r<;>first|exact⟨rfl,rfl,rfl⟩|(simp[AV.scalar] at h;done)|skip
 cases v<;>first|exact⟨rfl,rfl,rfl⟩|(simp[AV.scalar,Value.oneCell'] at h;done)
theorem aW3{G:Gh}{H:List AObj}{w:World}{x:AV}{v:Value}(r:Rel G H w x v)(h:x.okv=true):
  v.cells.size=x.flat.length/\(∀(j:Nat) y u,x.flat[j]?=some y->v.cells[j]?=some u->Rel G H w y u/\u.oneCell'=true):=by
 by_cases hs:x.scalar=true
 ·obtain⟨h1,h3,h2⟩:=aU2 r hs
  rw[h1,h2];refine⟨rfl,fun j y u e e'=>?_⟩
  cases j with
  |zero=>simp at e e';subst e;subst e';exact⟨r,h3⟩
  |succ j=>simp at e
 ·cases r<;>first|(simp[AV.scalar] at hs;done)|(simp[AV.okv,AV.scalar] at h;done)|skip
  ·simp only[AV.okv] at h;exact absurd h hs
  ·rename_i cs arr hl hr
   refine⟨by simpa [Value.cells,AV.flat] using hl,fun j y u e e'=>?_⟩
   have ry:=hr j y u (by simpa [AV.flat] using e) (by simpa [Value.cells] using e')
   simp only[AV.okv,xq6] at h;exact⟨ry,(aU2 ry (h y (ar7.2 ⟨j,by simpa [AV.flat] using e⟩))).2.1⟩
def af4:List AV->Nat->List AV->List AV
 |cs,_,[]=>cs
 |cs,off,x::r=>af4 (cs.set off x) (off+1) r
theorem ap2: ∀(xs cs:List AV) (off:Nat),(af4 cs off xs).length=cs.length
 |[],_,_=>rfl
 |x::r,cs,off=>by simp[af4,ap2 r]
theorem bj9: ∀(xs cs:List AV) (off k:Nat),(af4 cs off xs)[k]?=if off<=k/\k < off+xs.length/\k < cs.length then xs[k - off]? else cs[k]?
 |[],cs,off,k=>by simp[af4];intro h1 h2;omega
 |x::r,cs,off,k=>by
  rw[af4,bj9 r,List.length_set,List.length_cons];by_cases hk:k=off
  ·subst hk
   rw[if_neg (by omega)]
   by_cases hl:k < cs.length
   ·rw[if_pos (by omega)]
    simp[hl]
   ·rw[if_neg (by omega)]
    rw[bu3];simp[hl]
  ·by_cases hin:off+1<=k/\k < off+1+r.length/\k < cs.length
   ·rw[if_pos hin,if_pos (by omega)]
    have:k - off=(k - (off+1))+1:=by omega
    rw[this,List.getElem?_cons_succ]
   ·rw[if_neg hin,ar6 (by omega)]
    by_cases h2:off<=k/\k < off+(r.length+1)/\k < cs.length
    ·omega
    ·rw[if_neg h2]
def aw6(place:Nat->Option (Nat×Nat)):List AV->List (Nat×AV)->Prop×List AV
 |cs,[]=>(True,cs)
 |cs,(i,x)::r=>match place i with
  |none=>(False,cs)
  |some (off,size)=>((x.okv=true/\x.flat.length=size/\off+size<=cs.length)/\(aw6 place (af4 cs off x.flat) r).1,(aw6 place (af4 cs off x.flat) r).2)
def aE5(G:Gh)(H:List AObj)(w:World)(cs:List AV)(arr:Array Value):Prop:=
 arr.size=cs.length/\ ∀(j:Nat) (x:AV) (v:Value),cs[j]?=some x->arr[j]?=some v->Rel G H w x v
theorem bx3{G:Gh}{H:List AObj}{w:World}(place:Nat->Option (Nat×Nat)): ∀(parts:List (Nat×AV)) (vs:List (Nat×Value)) (cs:List AV) (arr:Array Value),aE5 G H w cs arr->
  vs.map (·.1)=parts.map (·.1)->(∀(j:Nat) x v,parts[j]?=some x->vs[j]?=some v->Rel G H w x.2 v.2)->(aw6 place cs parts).1->
  ∃arr',Instr.fill place arr vs=some arr'/\aE5 G H w (aw6 place cs parts).2 arr'
 |[],vs,cs,arr,hr,hm,_,_=>by
  have:vs=[]:=by cases vs with|nil=>rfl|cons _ _=>simp at hm
  subst this;exact⟨arr,rfl,hr⟩
 |(i,x)::r,vs,cs,arr,hr,hm,hp,hf=>by
  cases vs with
  |nil=>simp at hm
  |cons v vs=>
   obtain⟨i',v⟩:=v;simp only[List.map_cons,List.cons.injEq] at hm;obtain⟨rfl,hm⟩:=hm;unfold aw6 at hf⊢;cases hpl:place i' with
   |none=>rw[hpl] at hf;exact hf.elim
   |some os=>
    obtain⟨off,size⟩:=os;rw[hpl] at hf;obtain⟨⟨h1,h2,h3⟩,hf⟩:=hf;have rv:Rel G H w x v:=hp 0 (i',x) (i',v) rfl rfl;obtain⟨hsz,hcell⟩:=aW3 rv h1;have hset:=Great.foldl_set off v.cells.toList 0 arr;obtain⟨g1,g2⟩:=hset;have hfold:v.cells.zipIdx.foldl (fun cs (c,j)=>cs.setIfInBounds (off+j) c) arr=(v.cells.toList.zipIdx 0).foldl (fun cs (x:Value×Nat)=>cs.setIfInBounds (off+x.2) x.1) arr:=by
     rw[<-Array.foldl_toList,Array.toList_zipIdx]
    have hr':aE5 G H w (af4 cs off x.flat) (v.cells.zipIdx.foldl (fun cs (c,j)=>cs.setIfInBounds (off+j) c) arr):=by
     rw[hfold];refine⟨by rw[g1,ap2];exact hr.1,fun j y u e e'=>?_⟩
     rw[g2 j] at e';rw[bj9] at e;simp only[aD8,bR9] at e';by_cases hin:off<=j/\j < off+x.flat.length/\j < cs.length
     ·rw[if_pos hin] at e
      rw[if_pos (by rw[hsz,hr.1];exact hin)] at e'
      exact(hcell _ y u e (by simpa using e')).1
     ·rw[if_neg hin] at e
      rw[if_neg (by rw[hsz,hr.1];exact hin)] at e'
      exact hr.2 j y u e e'
    obtain⟨arr',ha,hb⟩:=bx3 place r vs _ _ hr' hm (fun j x v e e'=>hp (j+1) x v (by simpa using e) (by simpa using e')) hf
    refine⟨arr',?_,hb⟩;have hcond: ¬(v.cells.size≠size\/off+v.cells.size > arr.size):=by rw[hsz,hr.1];omega
    simp only[Instr.fill,hpl];rw[if_neg (by simpa using hcond)]
    exact ha
section
variable {P:Program}{env:Env}{H:List AObj}{dst:Option Tmp}{ty:TypeId}{pos:String}{after:Array Edge}{guard:Option (Nat×Bool)}
theorem aB5{G:Gh}{w:World}{z:Value}{zs:List AV}(h:z.cells.toList.map ap0=zs):aE5 G H w zs z.cells:=by
 subst h;refine⟨by simp,fun j x v e e'=>?_⟩
 rw[xq7,aL0,e'] at e;cases e
 exact aG5 v
theorem run_places{L:Tab}(hL:ac7 P L){w:World}: ∀(a:List Field),(a.all fun f=>known (L f.type))=true->
  (a.mapM fun f=>do pure (f.offset,<-sizeOf f.type):Sem (List (Nat×Nat))).run P w=.ok (a.map fun f=>(f.offset,(L f.type).size)) w
 |[],_=>by simp
 |f::r,h=>by
  simp only[List.all_cons,xq3] at h;have ih:=run_places hL (w:=w) r h.2;simp only[List.mapM_cons,Sem.run_bind,ai9 hL (aj7 h.1),Result.andThen_ok,Sem.run_pure,ih,List.map_cons]
def ai3(env:Env)(parts:Array (Nat×Operand)):List (Nat×AV):=parts.toList.map fun p=>(p.1,ev env p.2)
theorem bB8{n:Nat}{G:Gh}{a:Act}{w:World}(s:Sat n ds G env H a w)(parts:Array (Nat×Operand)):
  ((parts.map fun(i,x)=>(i,a.eval x)).toList.map (·.1)=(ai3 env parts).map (·.1))/\
  (∀(j:Nat) x v,(ai3 env parts)[j]?=some x->(parts.map fun(i,x)=>(i,a.eval x)).toList[j]?=some v->Rel G H w x.2 v.2):=by
 refine⟨by simp[ai3,Function.comp_def],fun j x v e e'=>?_⟩
 simp only[ai3,Array.toList_map,xq7] at e e';cases hp:parts.toList[j]? with
 |none=>rw[hp] at e;cases e
 |some q=>
  rw[hp] at e e';cases e
  cases e'
  exact s.ev q.2
def bi1(L:Tab)(t:TypeId)(parts:List (Nat×AV)):Option (Prop×AV):=
 match(L t).k with
 |.struct fs=>some ((fs.all fun(f:Nat×TypeId)=>known (L f.2))=true/\(aw6 (fun(i:Nat)=>(fs[i]?).map fun(f:Nat×TypeId)=>(f.1,(L f.2).size)) (L t).zero parts).1,.agg (aw6 (fun(i:Nat)=>(fs[i]?).map fun(f:Nat×TypeId)=>(f.1,(L f.2).size)) (L t).zero parts).2)
 |.arr _ e=>some (known (L e)=true/\(aw6 (fun i=>some (i*(L e).size,(L e).size)) (L t).zero parts).1,.agg (aw6 (fun i=>some (i*(L e).size,(L e).size)) (L t).zero parts).2)
 |_=>none
theorem cz7{L:Tab}(hL:ac7 P L){t:TypeId}{parts:Array (Nat×Operand)}{p:Prop}{z:AV}(h:bi1 L t (ai3 env parts)=some (p,z)):
  Still P ⟨dst,.build t parts,ty,pos,after,guard⟩ env H p z:=fun hp _ _ G a w s=>by
 unfold bi1 at h;obtain⟨pm,pr⟩:=bB8 s parts;split at h
 ·rename_i fs hk
  obtain⟨hu,i,zv,hi,_,_,_,hz,hzs,hza,_⟩:=hL t (by rw[hk];simp)
  rw[hk] at hu;obtain⟨ar,hu,hfs⟩:=hu;cases h
  obtain⟨h1,h2⟩:=hp;have hpl:(fun(i:Nat)=>(fs[i]?).map fun(f:Nat×TypeId)=>(f.1,(L f.2).size))=fun i=>((ar.map fun f=>(f.offset,(L f.type).size))[i]?:Option (Nat×Nat)):=by
   funext i
   rw[<-hfs];simp[xq7,Function.comp_def]
  obtain⟨arr',ha,hb⟩:=bx3 (G:=G) (H:=H) (w:=w) (fun(i:Nat)=>(fs[i]?).map fun(f:Nat×TypeId)=>(f.1,(L f.2).size)) (ai3 env parts) _ _ _ (aB5 hzs) pm pr h2
  refine⟨.agg arr',?_,.agg _ _ hb.1 hb.2⟩;have hall:(ar.toList.all fun f=>known (L f.type))=true:=by
   rw[<-hfs] at h1;simpa [List.all_map,Function.comp_def] using h1
  have hrun:=run_places hL (w:=w) ar.toList hall;rw[hpl] at ha;have hmap:(List.map (fun f:Field=>(f.offset,(L f.type).size)) ar.toList).toArray=ar.map fun f=>(f.offset,(L f.type).size):=by apply Array.ext';rw[Array.toList_map]
  simp only[execOp,Instr.build,Sem.run_bind,zeroValue,typeInfo,run_program,Result.andThen_ok,hi,hz,Sem.run_pure,run_underlying hu,cN7,Sem.run_map,hrun,hmap];simp only[ha];rfl
 ·rename_i n e hk
  obtain⟨hu,i,zv,hi,_,_,_,hz,hzs,hza,_⟩:=hL t (by rw[hk];simp)
  rw[hk] at hu;simp only[ao0] at hu;cases h
  obtain⟨h1,h2⟩:=hp;obtain⟨arr',ha,hb⟩:=bx3 (G:=G) (H:=H) (w:=w) (fun i=>some (i*(L e).size,(L e).size)) (ai3 env parts) _ _ _ (aB5 hzs) pm pr h2
  refine⟨.agg arr',?_,.agg _ _ hb.1 hb.2⟩;simp only[execOp,Instr.build,Sem.run_bind,zeroValue,typeInfo,run_program,Result.andThen_ok,hi,hz,Sem.run_pure,run_underlying hu,ai9 hL (aj7 h1)];simp only[ha];rfl
 ·cases h
theorem c82{e:TypeId}{x:Operand}:Quiet P ⟨dst,.box e x,ty,pos,after,guard⟩ env H ((ev env x).okv=true) (.ip (ev env x)):=fun hp _ _ G a w s=>by
 have rx:=s.ev x;obtain⟨hsz,hcell⟩:=aW3 rx hp;obtain⟨hi,hst,him,hce⟩:=aV6 s.inv (a.eval x).cells e (0,0) (More.refl w) rfl;refine⟨.pointer (some ⟨w.heap.size,0,none⟩),_,_,by simp[execOp,Instr.box,newVar,newRow],hi,hst,bl4 fun j y hj=>?_⟩
 rw[Nat.zero_add];have hlt:j < (a.eval x).cells.size:=by rw[hsz];exact aa0 hj
 exact⟨him j,_,by rw[hce j];exact xq2 hlt,(hcell j y _ hj (xq2 hlt)).1.mono hst⟩
def aY3(g:Bool)(z n:Nat)(fl:List AV):List AV:=(List.range n).map fun i=>if g then .agg ((fl.drop (i*z)).take z) else fl.getD i .any
theorem cc7{g:Bool}{z n:Nat}{fl:List AV}(hl:fl.length=n*z)(hg:g=false->z=1)(hsc:fl.all AV.scalar=true):
  aa2 (aY3 g z n fl)=fl/\(∀x∈aY3 g z n fl,x.flat.length=z/\x.okv=true)/\(aY3 g z n fl).length=n:=by
 have hone: ∀i,i < n->(if g then AV.agg ((fl.drop (i*z)).take z) else fl.getD i .any).flat=(fl.drop (i*z)).take z:=fun i hi=>by
  cases g with
  |true=>rfl
  |false=>
   obtain rfl:=hg rfl;have h: ∀x∈fl,x.flat=[x]:=fun x hx=>bJ6 (xq6.1 hsc x hx)
   rw[Nat.mul_one] at hl⊢;have hlt:i < fl.length:=by omega
   simp only[Bool.false_eq_true,if_false,List.getD,xq1 hlt,Option.getD_some];rw[h _ (aT3 hlt),aL3 hlt];rfl
 refine⟨?_,fun x hx=>?_,by simp[aY3]⟩
 ·have key: ∀k,k<=n->aa2 ((List.range k).map fun i=>if g then AV.agg ((fl.drop (i*z)).take z) else fl.getD i .any)=fl.take (k*z):=by
   intro k;induction k with
   |zero=>intro _;simp[aa2]
   |succ k ih=>
    intro hk;rw[List.range_succ,aJ3,ak4,ih (by omega)]
    have:aa2 (List.map (fun i=>if g then AV.agg ((fl.drop (i*z)).take z) else fl.getD i .any) [k])=(fl.drop (k*z)).take z:=by
     rw[List.map_singleton,ag6,hone k (by omega)]
     simp[aa2]
    rw[this,bL8,List.take_add]
  have:=key n (xq0 _);rw[<-hl,aL1] at this;exact this
 ·obtain⟨i,hi,rfl⟩:=xq9.1 hx
  have hi:=bg1.1 hi;have hle:(i+1)*z<=n*z:=aG2 z hi;rw[bL8] at hle;refine⟨by rw[hone i hi,List.length_take,List.length_drop,hl];omega,?_⟩
  cases g with
  |true=>exact xq6.2 fun x hx=>xq6.1 hsc x (bc4 (bg0 hx))
  |false=>
   obtain rfl:=hg rfl;have hlt:i < fl.length:=by omega
   simp only[Bool.false_eq_true,if_false,List.getD,xq1 hlt,Option.getD_some];exact cQ4 (xq6.1 hsc _ (aT3 hlt))
def ag7(zs:List AV)(n:Nat):List AV:=(List.range n).map fun i=>zs.getD (i%zs.length) .any
def aE2(L:Tab)(t:TypeId)(len:Nat)(parts:List (Nat×AV)):Option (Prop×AV):=
 match(L t).k with
 |.slice e=>
  if len=0 then some (known (L e)=true,.sl .full (L e).size [])
  else some ((known (L e)=true/\0 < (L e).size/\(L e).zero.length=(L e).size/\len*(L e).size<=16777216/\((L e).k.agg=false->(L e).size=1)/\(aw6 (fun i=>some (i*(L e).size,(L e).size)) (ag7 (L e).zero (len*(L e).size)) parts).2.all AV.scalar=true)/\
   (aw6 (fun i=>some (i*(L e).size,(L e).size)) (ag7 (L e).zero (len*(L e).size)) parts).1,
   .sl .full (L e).size (aY3 (L e).k.agg (L e).size len (aw6 (fun i=>some (i*(L e).size,(L e).size)) (ag7 (L e).zero (len*(L e).size)) parts).2))
 |_=>none
theorem cb6(place:Nat->Option (Nat×Nat)): ∀(parts:List (Nat×AV)) (cs:List AV),(aw6 place cs parts).2.length=cs.length
 |[],cs=>rfl
 |(i,x)::r,cs=>by
  unfold aw6;cases place i with
  |none=>rfl
  |some os=>simp only[];rw[cb6 place r,ap2]
theorem ca4{L:Tab}(hL:ac7 P L){t e:TypeId}{len:Nat}{parts:Array (Nat×Operand)}{n:Nat}{G:Gh}{a:Act}{w:World}(s:Sat n ds G env H a w)(hu:P.underlying t=some (.slice e))(h0:len≠0)(h1:known (L e)=true)(h2:0 < (L e).size)(h2':(L e).zero.length=(L e).size)(h3:len*(L e).size<=16777216)
  (h5:(aw6 (fun i=>some (i*(L e).size,(L e).size)) (ag7 (L e).zero (len*(L e).size)) (ai3 env parts)).1):
  ∃arr',(Instr.buildSlice t len (parts.map fun(i,x)=>(i,a.eval x))).run P w=.ok (.slice (some ⟨w.heap.size,0,none⟩) len len) (w.alloc (.cells arr' e (0,0)))/\aE5 G H w (aw6 (fun i=>some (i*(L e).size,(L e).size)) (ag7 (L e).zero (len*(L e).size)) (ai3 env parts)).2 arr':=by
 obtain⟨pm,pr⟩:=bB8 s parts;obtain⟨_,ie,zv,hie,hsz,_,_,hz,hzs,_⟩:=hL e (aj7 h1);have hzr:=aB5 (H:=H) (G:=G) (w:=w) hzs;have hzl:zv.cells.size=(L e).size:=by rw[hzr.1,h2']
 have hrc:aE5 G H w (ag7 (L e).zero (len*(L e).size)) ((Array.range (len*ie.size)).map (zv.cells[· %zv.cells.size]!)):=by
  rw[hsz];refine⟨by simp[ag7],fun j x v e1 e2=>?_⟩
  have hj:j < len*(L e).size:=by simpa [ag7] using aa0 e1
  have hmod:j%(L e).size < (L e).size:=Nat.mod_lt _ h2;simp only[ag7,xq7,aO4 hj,Option.map_some,Option.some.injEq] at e1;have e2':zv.cells[j%zv.cells.size]! =v:=by
   rw[ce4,Array.getElem?_range] at e2;rw[if_pos hj] at e2;simpa using e2
  subst e1;rw[<-e2'];rw[h2'];refine hzr.2 (j%(L e).size) _ _ (by simp[List.getD,xq1 (show j%(L e).size < (L e).zero.length by omega)]) ?_
  rw[hzl,xq2 (by omega)]
  simp[getElem!_def,xq2 (show j%(L e).size < zv.cells.size by omega)]
 have hf:=bx3 (G:=G) (H:=H) (w:=w) (fun i=>some (i*(L e).size,(L e).size)) (ai3 env parts) _ _ _ hrc pm pr h5
 obtain⟨arr',ha,hb⟩:=hf;have hpos:0 < len*(L e).size:=Nat.mul_pos (by omega) h2
 have hrun:=run_buildSlice (P:=P) w t e len (parts.map fun(i,x)=>(i,a.eval x)) arr' ie zv hu hie hz (by rw[hsz];omega) (by rw[hsz];omega) (by rw[hsz] at ha⊢;exact ha)
 exact⟨arr',hrun,hb⟩
theorem bM9{L:Tab}(hL:ac7 P L){t:TypeId}{len:Nat}{parts:Array (Nat×Operand)}{p:Prop}{z:AV}(h:aE2 L t len (ai3 env parts)=some (p,z))(hparts:len=0->parts= #[]):
  Quiet P ⟨dst,.buildSlice t len parts,ty,pos,after,guard⟩ env H p z:=fun hp _ _ G a w s=>by
 unfold aE2 at h;obtain⟨pm,pr⟩:=bB8 s parts;split at h
 ·rename_i e hk
  have hu:=(hL t (by rw[hk];simp)).1
  rw[hk] at hu;simp only[ao0] at hu;split at h
  ·rename_i h0
   cases h
   obtain rfl:=hparts h0;subst h0;obtain⟨hi,hst,him,hce⟩:=aV6 s.inv #[] e (0,0) (More.refl w) rfl;have ee: ∀f:Nat->Value,Array.map f (Array.range 0)= #[]:=fun f=>cN6 (by simp)
   refine⟨.slice (some ⟨w.heap.size,0,none⟩) 0 0,_,_,by simp[execOp,Instr.buildSlice,run_underlying hu,ai9 hL (aj7 hp),Instr.fill,newRow,ee],hi,hst,?_⟩
   exact .sl .full _ [] _ _ _ (fun _=>undef) rfl (xq0 _) (fun x hx=>by cases hx) (fun j x e=>by simp[aa2] at e) (fun j x e=>by simp[aa2] at e) (fun _=>rfl) (fun h=>absurd h (by omega)) (fun k e=>by cases e)
  ·rename_i h0
   cases h
   obtain⟨⟨h1,h2,h2',h3,h4,h6⟩,h5⟩:=hp;obtain⟨arr',hrun,hb⟩:=ca4 hL s hu h0 h1 h2 h2' h3 h5;obtain⟨hi,hst,him,hce⟩:=aV6 s.inv arr' e (0,0) (More.refl w) rfl;have hlen:(aw6 (fun i=>some (i*(L e).size,(L e).size)) (ag7 (L e).zero (len*(L e).size)) (ai3 env parts)).2.length=len*(L e).size:=by rw[cb6];simp[ag7]
   obtain⟨r1,r2,r3⟩:=cc7 hlen h4 h6;refine⟨_,_,_,by simp only[execOp,Sem.run_bind,hrun,Result.andThen_ok,Sem.run_pure];rfl,hi,hst,?_⟩
   have hr:=bl3 (G:=aF8 G w (w.alloc (.cells arr' e (0,0)))) (H:=H) (w:=w.alloc (.cells arr' e (0,0))) (s:=(L e).size) (xs:=aY3 (L e).k.agg (L e).size len (aw6 (fun i=>some (i*(L e).size,(L e).size)) (ag7 (L e).zero (len*(L e).size)) (ai3 env parts)).2)
    (b:=w.heap.size) (off:=0) (len:=len) (cap:=len) r3.symm (xq0 _) r2 (fun j y hj=>by
     rw[r1] at hj;rw[Nat.zero_add];have hlt:j < arr'.size:=by rw[hb.1];exact aa0 hj
     exact⟨him j,_,by rw[hce j];exact xq2 hlt,(hb.2 j y _ hj (xq2 hlt)).mono hst⟩)
   cases hr with
   |sl _ _ _ _ _ _ val a1 a2 a3 a4 a5 a6 a7 a8=>exact .sl .full _ _ _ _ _ val a1 a2 a3 a4 a5 (fun _=>rfl) a7 (fun k e=>by cases e)
 ·cases h
end
end V
end
section
namespace V
open Go
variable {ds:List Deferred}
structure Over(b:Nat)(arr:Array Value)(T:TypeId)(fr:Nat×Nat)(w w':World):Prop where
 os:w'.os=w.os
 tape:w'.tape=w.tape
 output:w'.output=w.output
 size:w'.heap.size=w.heap.size
 other: ∀c,c≠b->w'.heap[c]?=w.heap[c]?
 row:w'.heap[b]?=some (.cells arr T fr)
theorem Over.rows{b:Nat}{arr arr':Array Value}{T:TypeId}{fr:Nat×Nat}{w w':World}(h:Over b arr' T fr w w')(hb:w.heap[b]?=some (.cells arr T fr))(hs:arr'.size=arr.size):
  ∀(c:Nat) a e f,w.heap[c]?=some (.cells a e f)-> ∃a',w'.heap[c]?=some (.cells a' e f)/\a'.size=a.size:=fun c a e f hc=>by
 by_cases hcb:c=b
 ·subst hcb
  rw[hb] at hc;cases hc
  exact⟨arr',h.row,hs⟩
 ·exact⟨a,(h.other c hcb).trans hc,rfl⟩
theorem aA6{P:Program}{b:Nat}{T:TypeId}{fr:Nat×Nat}(off:Nat): ∀(vs:List Value) (i:Nat) (w:World) (arr:Array Value),w.heap[b]?=some (.cells arr T fr)->(∀v∈vs,v.oneCell'=true)->off+i+vs.length<=arr.size->
  (∀j,off+i<=j->j < off+i+vs.length->w.frozen? ⟨b,j,none⟩=false)->
  ∃w',(storeCells ⟨b,off,none⟩ vs i).run P w=.ok () w'/\Over b ((vs.zipIdx i).foldl (fun cs (x:Value×Nat)=>cs.setIfInBounds (off+x.2) x.1) arr) T fr w w'
 |[],i,w,arr,hb,_,_,_=>⟨w,rfl,rfl,rfl,rfl,rfl,fun _ _=>rfl,hb⟩
 |v::r,i,w,arr,hb,h1,hl,hf=>by
  simp only[List.length_cons] at hl hf;have hcell:w.cell? ⟨b,off+i,none⟩=some arr[off+i]:=by simp[World.cell?,hb,xq2 (show off+i < arr.size by omega)]
  have hfz:=hf (off+i) (by omega) (by omega)
  have hb1:(w.setCell ⟨b,off+i,none⟩ v).heap[b]?=some (.cells (arr.setIfInBounds (off+i) v) T fr):=by
   simp[World.setCell,bL7,hb]
  have hfr: ∀j,(w.setCell ⟨b,off+i,none⟩ v).frozen? ⟨b,j,none⟩=w.frozen? ⟨b,j,none⟩:=fun j=>World.frozen?_setCell ..
  obtain⟨w',hr,ho⟩:=aA6 (P:=P) off r (i+1) (w.setCell ⟨b,off+i,none⟩ v) (arr.setIfInBounds (off+i) v) hb1 (fun u hu=>h1 u (aJ4 _ hu)) (by simp;omega) (fun j h2 h3=>by rw[hfr];exact hf j (by omega) (by omega))
  refine⟨w',?_,?_⟩
  ·simp only[storeCells,Sem.run_bind,addr_add,run_store P w _ v _ (h1 v (aD9 ..)),hcell,hfz,Bool.false_eq_true,if_false,Result.andThen_ok,hr]
  ·refine⟨ho.os,ho.tape,ho.output,ho.size.trans (by simp),fun c hc=>(ho.other c hc).trans (RowKit.Below.heap_setCell _ _ _ _ hc),?_⟩
   simpa [List.zipIdx_cons] using ho.row
def aH5(G:Gh)(H:List AObj)(w:World)(cs:List AV)(arr:Array Value):Prop:=
 cs.length<=arr.size/\ ∀(j:Nat) (x:AV) (v:Value),cs[j]?=some x->arr[j]?=some v->Rel G H w x v
theorem aE5.le{G:Gh}{H:List AObj}{w:World}{cs:List AV}{arr:Array Value}(h:aE5 G H w cs arr):aH5 G H w cs arr:=⟨aQ7 h.1.symm,h.2⟩
theorem bo7(arr:Array Value)(off:Nat)(vs:List Value):((vs.zipIdx 0).foldl (fun cs (x:Value×Nat)=>cs.setIfInBounds (off+x.2) x.1) arr).size=arr.size:=(Great.foldl_set off vs 0 arr).1
theorem bc7{G:Gh}{H:List AObj}{w:World}{cs xs:List AV}{arr:Array Value}{off:Nat}{vs:List Value}(h:aH5 G H w cs arr)(hx:vs.length=xs.length)(hv: ∀(j:Nat) x v,xs[j]?=some x->vs[j]?=some v->Rel G H w x v):
  aH5 G H w (af4 cs off xs) ((vs.zipIdx 0).foldl (fun cs (x:Value×Nat)=>cs.setIfInBounds (off+x.2) x.1) arr):=by
 obtain⟨g1,g2⟩:=Great.foldl_set off vs 0 arr;refine⟨by rw[g1,ap2];exact h.1,fun j y u e e'=>?_⟩
 rw[g2 j] at e';rw[bj9] at e;simp only[aD8] at e';by_cases hin:off<=j/\j < off+xs.length/\j < cs.length
 ·rw[if_pos hin] at e
  rw[if_pos (by have:=h.1;omega)] at e'
  exact hv _ y u e e'
 ·rw[if_neg hin] at e
  have hj:=aa0 e;rw[if_neg (by have:=h.1;omega)] at e'
  exact h.2 j y u e e'
theorem as7{α:Type}{H:List α}{o:α}{k:Nat}{x:α}(e:(H++[o])[k]?=some x):(k < H.length/\H[k]?=some x)\/(k=H.length/\x=o):=by
 by_cases hk:k < H.length
 ·rw[xq4 hk] at e;exact .inl ⟨hk,e⟩
 ·rw[xq5 (by omega)] at e
  have:=aa0 e;simp at this
  have hk':k=H.length:=by omega
  subst hk';simp at e
  exact .inr ⟨rfl,e.symm⟩
def ae3(G:Gh)(H:List AObj)(b cap:Nat):Gh:={G with blk:=fun k=>if k=H.length then b else G.blk k,own:=fun k=>if k=H.length then(none,cap) else G.own k}
theorem aD0{G:Gh}{H:List AObj}{w w1:World}(hi:HInv G H w)(hm:More w w1)(hsz:w1.heap.size=w.heap.size){cs:List AV}{arr:Array Value}(hr:aH5 G H w cs arr)(e:TypeId)(fr:Nat×Nat)(hfr:arr.size<=fr.1\/fr.2=0)(sh:Shape)(cap:Nat)(hsh:match sh with|.one t=>e=t/\arr.size=cs.length/\fr.2=0|.raw t=>e=t/\arr.size=cs.length|.row s=>0 < s/\arr.size=cap*s|.prow s=>0 < s/\arr.size=cap*s/\fr.2=0):
  HInv (ae3 G H w.heap.size cap) (H++[.cells sh cs]) (w1.alloc (.cells arr e fr))/\Step G H w (ae3 G H w.heap.size cap) (H++[.cells sh cs]) (w1.alloc (.cells arr e fr))/\(ae3 G H w.heap.size cap).blk H.length=w.heap.size/\(ae3 G H w.heap.size cap).own H.length=(none,cap):=by
 have hm':=hm.alloc (.cells arr e fr);have hb:(w1.alloc (.cells arr e fr)).heap[w.heap.size]?=some (.cells arr e fr):=by
  show (w1.heap.push (.cells arr e fr))[w.heap.size]?=_
  rw[<-hsz];simp
 have hblk: ∀k,k≠H.length->(ae3 G H w.heap.size cap).blk k=G.blk k:=fun k hk=>by simp[ae3,hk]
 have hown: ∀k,k≠H.length->(ae3 G H w.heap.size cap).own k=G.own k:=fun k hk=>by simp[ae3,hk]
 have st:Step G H w (ae3 G H w.heap.size cap) (H++[.cells sh cs]) (w1.alloc (.cells arr e fr)):=by
  refine⟨congrArg (fun o=>(o,G.lp)) hm'.os,hm'.tape,hm'.output,hm'.size,fun _ _ h=>h,fun b off h=>World.cell?_of_block (w:=w) (hm'.old b (hi.lt b off h)),fun b h=>hm'.old b (hi.lt b 0 (h 0)),fun k=>?_⟩
  cases ek:H[k]? with
  |none=>exact bH5 ek (fun _ _ e=>by cases e)
  |some o=>
   have hk:=aa0 ek;have ea:(H++[.cells sh cs])[k]?=some o:=by rw[xq4 hk];exact ek
   cases o with
   |cells t' cs'=>exact⟨⟨_,ea,rfl⟩,hblk k (by omega),hown k (by omega)⟩
   |mo x=>exact⟨⟨_,ea,rfl⟩,hblk k (by omega),hown k (by omega)⟩
   |gone=>exact⟨ea,hblk k (by omega),hown k (by omega)⟩
   |loop r E=>exact⟨ea,hblk k (by omega),hown k (by omega)⟩
   |grow s n t=>exact⟨n,ea,xq0 _,fun _=>hown k (by omega)⟩
 have hnew:(ae3 G H w.heap.size cap).blk H.length=w.heap.size:=by simp[ae3]
 have hnewo:(ae3 G H w.heap.size cap).own H.length=(none,cap):=by simp[ae3]
 refine⟨⟨fun b off h=>aB2 (hi.lt b off h) hm'.size,fun k sh' cs' ek=>?_,fun k s n t ek=>?_,fun k k' b e1 e2=>?_,hi.tabs.step st fun k x e=>by
  rcases as7 e with⟨hk,e⟩|⟨_,e⟩
  ·exact⟨e,hm'.old _ (hi.mo_lt e),fun _ h=>h⟩
  ·cases e⟩,st,hnew,hnewo⟩
 ·rcases as7 ek with⟨hk,ek⟩|⟨rfl,ek'⟩
  ·obtain⟨arr',T,fr',hb',hs',hr',hf1,hf2,hf3⟩:=hi.cells k sh' cs' ek
   rw[hblk k (by omega)]
   have hlt:=au1 hb';refine⟨arr',T,fr',(hm'.old _ hlt).trans hb',hs',fun j x v ex ev=>(hr' j x v ex ev).mono st,hf1,fun off ho=>(World.frozen?_of_block (w:=w) (hm'.old _ hlt)).trans (hf2 off ho),?_⟩
   unfold aS0 at hf3⊢;rw[hown k (by omega)]
   exact hf3
  ·cases ek'
   rw[hnew];refine⟨arr,e,fr,hb,hr.1,fun j x v ex ev=>(hr.2 j x v ex ev).mono st,fun off h=>bc6 _ (hi.lt _ off h),fun off ho=>?_,?_⟩
   rotate_left
   ·unfold aS0
    rw[hnewo];exact hsh
   unfold World.frozen?;rw[show (w1.alloc (.cells arr e fr)).heap[(Addr.mk w.heap.size off none).block]?=some (.cells arr e fr) from hb]
   obtain⟨lo,hi'⟩:=fr;simp only[Bool.and_eq_false_iff,decide_eq_false_iff_not];simp only at hfr;omega
 ·rcases as7 ek with⟨hk,ek⟩|⟨rfl,ek'⟩
  ·obtain⟨h0,h1,h2,hty⟩:=hi.grow k s n t ek
   rw[hown k (by omega)]
   refine⟨h0,h1,fun hn=>?_,aj1 hty (hown k (by omega)) (xq0 _) (fun b arr e fr hb=>⟨arr,(hm'.old _ (au1 hb)).trans hb,rfl⟩) (fun _ _ _ _ _ _ _ _ _ hx _=>hx)⟩
   obtain⟨b,off,arr',T,fr',ea,hb',hsz',hj⟩:=h2 hn;have hlt:=au1 hb';exact⟨b,off,arr',T,fr',ea,(hm'.old _ hlt).trans hb',hsz',fun j h3 h4=>⟨(hj j h3 h4).1,(World.frozen?_of_block (w:=w) (hm'.old _ hlt)).trans (hj j h3 h4).2⟩⟩
  ·cases ek'
 ·have hs: ∀k b,site (ae3 G H w.heap.size cap) (H++[.cells sh cs]) k=some b->(k < H.length/\site G H k=some b)\/(k=H.length/\b=w.heap.size):=fun k b e=>by
   unfold site at e⊢;cases ek:(H++[AObj.cells sh cs])[k]? with
   |none=>rw[ek] at e;cases e
   |some o=>
    rcases as7 ek with⟨hk,ek'⟩|⟨rfl,ek'⟩
    ·left
     rw[ek] at e;rw[ek'];rw[hblk k (by omega),hown k (by omega)] at e
     exact⟨hk,e⟩
    ·right
     subst ek';rw[ek] at e;simp only[hnew,Option.some.injEq] at e;exact⟨rfl,e.symm⟩
  rcases hs k b e1 with⟨h1,h2⟩|⟨h1,h2⟩<;>rcases hs k' b e2 with⟨h3,h4⟩|⟨h3,h4⟩
  ·exact hi.apart k k' b h2 h4
  ·have:=hi.site_lt h2;omega
  ·have:=hi.site_lt h4;omega
  ·omega
theorem af6{α:Type}{H:List α}{k:Nat}{o:α}{i:Nat}{x:α}(e:(H.set k o)[i]?=some x):(i≠k/\H[i]?=some x)\/(i=k/\x=o/\k < H.length):=by
 by_cases hi:i=k
 ·subst hi
  have hl:=aa0 e;simp at hl
  simp[hl] at e
  exact .inr ⟨rfl,e.symm,hl⟩
 ·rw[ar6 (fun h=>hi h.symm)] at e
  exact .inl ⟨hi,e⟩
theorem aR9{G:Gh}{H:List AObj}{k s n b off:Nat}{t:Option TypeId}(hk:H[k]?=some (.grow s n t))(hn:n < (G.own k).2)(ea:(G.own k).1=some ⟨b,off,none⟩):site G H k=some b:=by
 unfold site;rw[hk];have:G.own k=(some ⟨b,off,none⟩,(G.own k).2):=by rw[<-ea]
 rw[this];simp only;rw[if_pos (.inl hn)]
theorem aV2{G:Gh}{H:List AObj}{w w':World}(hi:HInv G H w){k:Nat}{sh:Shape}{cs cs':List AV}(hk:H[k]?=some (.cells sh cs))(hl:(∀s,sh≠ .row s/\sh≠ .prow s)->cs'.length=cs.length){arr':Array Value}{T:TypeId}{fr:Nat×Nat}{arr:Array Value}
  (hb:w.heap[G.blk k]?=some (.cells arr T fr)) (hsz:arr'.size=arr.size) (ho:Over (G.blk k) arr' T fr w w') (hr:aH5 G H w cs' arr'):HInv G (H.set k (.cells sh cs')) w'/\Step G H w G (H.set k (.cells sh cs')) w':=by
 obtain⟨arr0,T0,fr0,hb0,hs0,hr0,hf1,hf2,hf3⟩:=hi.cells k sh cs hk;rw[hb] at hb0;cases hb0
 have hkl:=aa0 hk;have hget:(H.set k (.cells sh cs'))[k]?=some (.cells sh cs'):=by simp[hkl]
 have st:Step G H w G (H.set k (.cells sh cs')) w':=by
  refine⟨congrArg (fun o=>(o,G.lp)) ho.os,ho.tape,ho.output,aQ7 ho.size.symm,fun _ _ h=>h,fun b off h=>World.cell?_of_block (w:=w) (ho.other b fun e=>hf1 off (e▸h)),fun b h=>ho.other b fun e=>hf1 0 (e▸h 0),fun i=>?_⟩
  cases ei:H[i]? with
  |none=>exact bs1 ei
  |some o=>
   by_cases hik:i=k
   ·subst hik
    rw[hk] at ei;cases ei
    exact⟨⟨_,hget,rfl⟩,rfl,rfl⟩
   ·have ea:(H.set k (.cells sh cs'))[i]?=some o:=by rw[ar6 (fun h=>hik h.symm)];exact ei
    cases o with
    |cells t c=>exact⟨⟨_,ea,rfl⟩,rfl,rfl⟩
    |mo x=>exact⟨⟨_,ea,rfl⟩,rfl,rfl⟩
    |gone=>exact⟨ea,rfl,rfl⟩
    |loop r E=>exact⟨ea,rfl,rfl⟩
    |grow s n t=>exact⟨n,ea,xq0 _,fun _=>rfl⟩
 have hfz: ∀b off,w'.frozen? ⟨b,off,none⟩=w.frozen? ⟨b,off,none⟩:=fun b off=>by
  by_cases e:b=G.blk k
  ·subst e
   simp[World.frozen?,ho.row,hb]
  ·exact World.frozen?_of_block (w:=w) (ho.other b e)
 refine⟨⟨fun b off h=>by rw[ho.size];exact hi.lt b off h,fun i sh' c ei=>?_,fun i s n t ei=>?_,fun i j b e1 e2=>?_,hi.tabs.step st fun i x e=>by
  rcases af6 e with⟨hik,e⟩|⟨_,e,_⟩
  ·exact⟨e,ho.other _ (hi.mo_apart e (by simp[site,hk]) hik),fun _ h=>h⟩
  ·cases e⟩,st⟩
 ·rcases af6 ei with⟨hik,ei'⟩|⟨rfl,ei',_⟩
  ·obtain⟨a1,T1,f1,hb1,hs1,hr1,hg1,hg2,hg3⟩:=hi.cells i sh' c ei'
   have hne:G.blk i≠G.blk k:=fun e=>hik (hi.apart i k (G.blk k) (by simp[site,ei',e]) (by simp[site,hk]))
   exact⟨a1,T1,f1,(ho.other _ hne).trans hb1,hs1,fun j x v ex ev=>(hr1 j x v ex ev).mono st,hg1,fun off h=>(hfz _ _).trans (hg2 off h),hg3⟩
  ·cases ei'
   refine⟨arr',T,fr,ho.row,hr.1,fun j x v ex ev=>(hr.2 j x v ex ev).mono st,hf1,fun off h=>(hfz _ _).trans (hf2 off (by omega)),?_⟩
   cases sh with
   |one t=>exact⟨hf3.1,by rw[hsz,hl (fun s=>⟨nofun,nofun⟩)];exact hf3.2.1,hf3.2.2⟩
   |raw t=>exact⟨hf3.1,by rw[hsz,hl (fun s=>⟨nofun,nofun⟩)];exact hf3.2⟩
   |row s=>exact⟨hf3.1,by rw[hsz];exact hf3.2⟩
   |prow s=>exact⟨hf3.1,by rw[hsz];exact hf3.2.1,hf3.2.2⟩
 ·rcases af6 ei with⟨hik,ei'⟩|⟨rfl,ei',_⟩
  ·obtain⟨h0,h1,h2,hty⟩:=hi.grow i s n t ei'
   refine⟨h0,h1,fun hn=>?_,aj1 hty rfl (xq0 _) (ho.rows hb hsz) (fun _ _ _ _ _ _ _ _ _ hx _=>hx)⟩
   obtain⟨b,off,a1,T1,f1,ea,hb1,hsz1,hj⟩:=h2 hn;have hne:b≠G.blk k:=fun e=>hik (hi.apart i k (G.blk k) (e▸aR9 ei' hn ea) (by simp[site,hk]))
   exact⟨b,off,a1,T1,f1,ea,(ho.other _ hne).trans hb1,hsz1,fun j h3 h4=>⟨(hj j h3 h4).1,(hfz _ _).trans (hj j h3 h4).2⟩⟩
  ·cases ei'
 ·have hs: ∀i b,site G (H.set k (.cells sh cs')) i=some b->site G H i=some b:=fun i b e=>by
   unfold site at e⊢;cases ei:(H.set k (AObj.cells sh cs'))[i]? with
   |none=>rw[ei] at e;cases e
   |some o=>
    rw[ei] at e;rcases af6 ei with⟨_,ei'⟩|⟨rfl,ei',_⟩
    ·rw[ei'];exact e
    ·subst ei';rw[hk];exact e
  exact hi.apart i j b (hs i b e1) (hs j b e2)
section
variable {P:Program}{env:Env}{H:List AObj}{dst:Option Tmp}{ty:TypeId}{pos:String}{after:Array Edge}{guard:Option (Nat×Bool)}
theorem bV5{G:Gh}{w:World}{sh:Shape}{cs:List AV}{b:Nat}(hb:G.blk H.length=b):Rel G (H++[.cells sh cs]) w (.mp H.length 0) (.pointer (some ⟨b,0,none⟩)):=by
 have:=Rel.mp (G:=G) (H:=H++[.cells sh cs]) (w:=w) H.length 0 _ bo2 rfl;rwa [hb] at this
theorem bh5{G:Gh}{w:World}{sh:Shape}{cs:List AV}{b cap len:Nat}(hb:G.blk H.length=b)(hc:(G.own H.length).2=cap)(hl:len<=cap):Rel G (H++[.cells sh cs]) w (.mrow H.length len) (.slice (some ⟨b,0,none⟩) len cap):=by
 have:=Rel.mrow (G:=G) (H:=H++[.cells sh cs]) (w:=w) H.length len _ bo2 rfl (by rw[hc];exact hl)
 rwa [hb,hc] at this
theorem cE9{e:TypeId}{x:Operand}{K:AV->List AObj->Prop}(hx:(ev env x).okv=true)(hk:K (.mp H.length 0) (H++[.cells (.one e) (ev env x).flat])):AOp P ⟨dst,.box e x,ty,pos,after,guard⟩ env H K:=.of_run fun n ds G a w s=>by
 have rx:=s.ev x;obtain⟨hsz,hcell⟩:=aW3 rx hx;obtain⟨hi,hst,hb,_⟩:=aD0 s.inv (More.refl w) rfl (cs:=(ev env x).flat) (arr:=(a.eval x).cells) (aE5.le ⟨hsz,fun j y u e e'=>(hcell j y u e e').1⟩) e (0,0) (.inr rfl) (.one e) 0 ⟨rfl,hsz,rfl⟩
 refine⟨.pointer (some ⟨w.heap.size,0,none⟩),_,.mp H.length 0,_,_,by simp[execOp,Instr.box,newVar,newRow],hi,hst,?_,hk⟩
 exact bV5 hb
theorem dk8{L:Tab}(hL:ac7 P L){e:TypeId}{K:AV->List AObj->Prop}(hx:known (L e)=true)(hk:K (.mp H.length 0) (H++[.cells (.one e) (L e).zero])):AOp P ⟨dst,.alloc e,ty,pos,after,guard⟩ env H K:=.of_run fun n ds G a w s=>by
 obtain⟨_,i,z,hi',_,_,_,hz,hzs,_⟩:=hL e (aj7 hx);have hzr:=aB5 (H:=H) (G:=G) (w:=w) hzs;obtain⟨hi,hst,hb,_⟩:=aD0 s.inv (More.refl w) rfl hzr.le e (0,0) (.inr rfl) (.one e) 0 ⟨rfl,hzr.1,rfl⟩;refine⟨.pointer (some ⟨w.heap.size,0,none⟩),_,.mp H.length 0,_,_,by simp[execOp,Instr.alloc,zeroValue,typeInfo,hi',hz,newVar,newRow],hi,hst,?_,hk⟩
 exact bV5 hb
theorem dp0{G:Gh}{w:World}{x:AV}{v:Value}(r:Rel G H w x v)(h:x.okv=true):v.cells.toList.length=x.flat.length/\(∀(j:Nat) y u,x.flat[j]?=some y->v.cells.toList[j]?=some u->Rel G H w y u)/\(∀u∈v.cells.toList,u.oneCell'=true):=by
 obtain⟨h1,h2⟩:=aW3 r h;refine⟨by simpa using h1,fun j y u e e'=>(h2 j y u e (by simpa using e')).1,fun u hu=>?_⟩
 obtain⟨j,hj⟩:=ar7.1 hu;have hlt:j < x.flat.length:=by rw[<-h1];simpa using aa0 hj
 exact(h2 j _ u (xq1 hlt) (by simpa using hj)).2
theorem dk6{L:Tab}(hL:ac7 P L){t:TypeId}{ad x:Operand}{k off:Nat}{sh:Shape}{cs:List AV}{K:AV->List AObj->Prop}(ha:ev env ad=.mp k off)(hk:H[k]?=some (.cells sh cs))
  (hp:known (L t)=true/\(ev env x).okv=true/\(ev env x).flat.length=(L t).size/\off+(L t).size<=cs.length) (hK:K .any (H.set k (.cells sh (af4 cs off (ev env x).flat)))):
  AOp P ⟨dst,.store t ad x,ty,pos,after,guard⟩ env H K:=.of_skip fun n ds G a w s=>by
 obtain⟨h1,h2,h3,h4⟩:=hp;have ra:=s.ev ad;rw[ha] at ra;have rx:=s.ev x;generalize hv:a.eval ad=v at ra;cases ra with
 |mp _ _ o0 hk0 ho0=>
  obtain⟨arr,T,fr,hb,hsz,hr,hf1,hf2,hf3⟩:=s.inv.cells k sh cs hk;obtain⟨l1,l2,l3⟩:=dp0 rx h2;obtain⟨w',hrun,ho⟩:=aA6 (P:=P) off (a.eval x).cells.toList 0 w arr hb l3 (by omega) (fun j hj1 hj2=>hf2 j (by omega))
  have hrel:=bc7 (off:=off) (xs:=(ev env x).flat) (vs:=(a.eval x).cells.toList) ⟨hsz,hr⟩ l1 l2;obtain⟨hi,hst⟩:=aV2 s.inv hk (fun _=>by rw[ap2]) hb (bo7 ..) ho hrel
  refine⟨w',G,_,?_,hi,hst,hK⟩;have hsize:(a.eval x).cells.size=(L t).size:=by rw[<-h3,<-l1];simp
  simp[execOp,Instr.storeAt,Instr.sureAddr,storeVar,hv,ai9 hL (aj7 h1),hsize,hrun]
def be7(L:Tab)(src d:TypeId)(x:AV)(H:List AObj)(K:AV->List AObj->Prop)[Tag K]:Prop:=
 match(L src).k,(L d).k,x with
 |.str,.slice e,.str l=>(L e).k=.int .u8/\K (.mrow H.length l.length) (H++[.cells (.row 1) (l.map o6)])
 |_,_,_=>False
theorem dk7{L:Tab}(hL:ac7 P L){src d:TypeId}{x:Operand}{K:AV->List AObj->Prop}(h:be7 L src d (ev env x) H K):AOp P ⟨dst,.convert src d x,ty,pos,after,guard⟩ env H K:=.of_run fun n ds G a w s=>by
 have rx:=s.ev x;unfold be7 at h;split at h
 ·rename_i e l h1 h2 ex
  have hs:=(hL src (by rw[h1];simp)).1
  have hd:=(hL d (by rw[h2];simp)).1
  rw[h1] at hs;rw[h2] at hd;simp only[ao0] at hs hd;rw[ex] at rx;have hx:=ak9 rx;obtain⟨h3,hK⟩:=h;have he:=(hL e (by rw[h3];simp)).1
  rw[h3] at he;simp only[ao0] at he;have hrun:=run_bytes_of_string (P:=P) w src d e ⟨l.toArray⟩ hs hd he;have hge:l.length<=grownCap w l.length 0 e:=grownCap_ge w _ 0 e;have hbs:(bytesRow ⟨l.toArray⟩ (grownCap w l.length 0 e)).size=grownCap w l.length 0 e:=by simp[bytesRow,size_mk];omega
  have hrc:aH5 G H w (l.map o6) (bytesRow ⟨l.toArray⟩ (grownCap w l.length 0 e)):=by
   refine⟨by rw[hbs,List.length_map];exact hge,fun j y u ey eu=>?_⟩
   have hj:j < l.length:=by simpa using aa0 ey
   simp only[xq7,xq1 hj,Option.map_some,Option.some.injEq] at ey;simp[bytesRow,hj,cN8] at eu
   rw[<-ey,<-eu];exact .lit _
  obtain⟨hi,hst,hb,ho⟩:=aD0 s.inv (More.refl w).drew rfl hrc e ((bytesRow ⟨l.toArray⟩ (grownCap w l.length 0 e)).size,(bytesRow ⟨l.toArray⟩ (grownCap w l.length 0 e)).size+1) (.inl (xq0 _)) (.row 1) (grownCap w l.length 0 e) ⟨by omega,by rw[hbs,Nat.mul_one]⟩
  refine⟨_,_,_,_,_,by simp[execOp,hx];rw[hrun];rfl,hi,hst,?_,hK⟩
  exact bh5 hb (by rw[ho];rfl) hge
 ·exact h.elim
def br8(P:Program)(L:Tab)(H:List AObj)(src d:TypeId)(x:AV):Option (Prop×AV):=
 match x with
 |.mp k off=>match(L src).k,(L d).k,H[k]? with
  |.ptr e,.uptr,some (.cells (.one _) cs)=>some (known (L e)=true/\(L e).size≠0/\off < cs.length,.mp k off)
  |.uptr,.ptr u,some (.cells (.one T) cs)=>some (known (L u)=true/\liesAt P P.depth T (cs.length/P.cellsOf T) off u 1=true,.mp k off)
  |_,_,_=>none
 |.msl k off len _=>match(L src).k,(L d).k,H[k]? with
  |.slice e,.str,some (.cells _ cs)=>some ((L e).k=.int .u8/\off+len<=cs.length/\isBytes ((cs.drop off).take len),.str (ax3 ((cs.drop off).take len)))
  |_,_,_=>none
 |.mrow k len=>match(L src).k,(L d).k,H[k]? with
  |.slice e,.str,some (.cells _ cs)=>some ((L e).k=.int .u8/\len<=cs.length/\isBytes (cs.take len),.str (ax3 (cs.take len)))
  |_,_,_=>none
 |x=>cf6 L src d x
theorem b99{L:Tab}(hL:ac7 P L){src d e:TypeId}{x:Operand}{k off len cap:Nat}{sh:Shape}{cs:List AV}(h1:(L src).k=.slice e)(h2:(L d).k=.str)(hk:H[k]?=some (.cells sh cs))
  (h3:(L e).k=.int .u8) (h4:off+len<=cs.length) (h5:isBytes ((cs.drop off).take len)) {n:Nat} {G:Gh} {a:Act} {w:World} (s:Sat n ds G env H a w) (hv:a.eval x=.slice (some ⟨G.blk k,off,none⟩) len cap):
  ∃v w' G',(execOp a.eval ⟨dst,.convert src d x,ty,pos,after,guard⟩).run P w=.ok (.value v) w'/\HInv G' H w'/\Step G H w G' H w'/\Rel G' H w' (.str (ax3 ((cs.drop off).take len))) v:=by
 have hs:=(hL src (by rw[h1];simp)).1
 have hd:=(hL d (by rw[h2];simp)).1
 have he:=(hL e (by rw[h3];simp)).1
 rw[h1] at hs;rw[h2] at hd;rw[h3] at he;simp only[ao0] at hs hd he;obtain⟨arr,T,fr,hb,hsz,hr,hf1,hf2,hf3⟩:=s.inv.cells k sh cs hk;unfold isBytes at h5;generalize ax3 ((cs.drop off).take len)=l at h5;have hll:l.length=len:=by
  have:=congrArg List.length h5;simp only[List.length_take,List.length_drop,List.length_map] at this;omega
 have hld:(loadCells ⟨G.blk k,off,none⟩ len).run P w=.ok ((l.map fun b=>(b.toNat:Int)).map (Value.int .u8)).toArray w:=by
  have:=run_loadCells_list (P:=P) w ⟨G.blk k,off,none⟩ ((l.map fun b=>(b.toNat:Int)).map (Value.int .u8)) (fun j v e=>by
   rw[addr_add];have hj:j < l.length:=by simpa using aa0 e
   have hcs:cs[off+j]?=some (o6 l[j]):=by
    have:=congrArg (·[j]?) h5;simp only[aB1,aL2,xq7,xq1 hj,Option.map_some] at this;rw[if_pos (by omega)] at this
    exact this
   have hja:off+j < arr.size:=by omega
   have hrl:=hr _ _ _ hcs (xq2 hja);have:=ac0 hrl;simp[hj] at e
   simp only[World.cell?,hb];rw[xq2 hja,this,<-e];rfl)
  simpa [hll] using this
 have hrun:(Conv.bytesToString (.slice (some ⟨G.blk k,off,none⟩) len cap)).run P w=.ok (.string ⟨l.toArray⟩) w:=by
  rw[run_bytesToString (P:=P) w _ _ cap _ hld];have:=bw9 l [];rw[List.nil_append] at this;rw[<-this];rfl
 refine⟨_,w,G,?_,s.inv,.refl _ _ _,.str _⟩;simp[execOp,hv,run_convert_bytes_string w src d e _ _ cap hs he hd,hrun]
theorem cB6{L:Tab}(hL:ac7 P L){src d:TypeId}{x:Operand}{p:Prop}{z:AV}(h:br8 P L H src d (ev env x)=some (p,z)):
  Quiet P ⟨dst,.convert src d x,ty,pos,after,guard⟩ env H p z:=by
 unfold br8 at h;split at h
 ·rename_i k off ex
  split at h
  ·rename_i e T cs h1 h2 hk
   cases h
   intro hp _ _ G a w s;obtain⟨h3,h4,h5⟩:=hp;have rx:=s.ev x;rw[ex] at rx;have hs:=(hL src (by rw[h1];simp)).1
   have hd:=(hL d (by rw[h2];simp)).1
   rw[h1] at hs;rw[h2] at hd;simp only[ao0] at hs hd;obtain⟨arr,T',fr,hb,hsz,hr,hf1,hf2,hf3⟩:=s.inv.cells k _ cs hk;obtain⟨rfl,hsz',_⟩:=hf3;obtain⟨_,i,_,hinfo,hisz,_⟩:=hL e (aj7 h3);generalize hv:a.eval x=v at rx;cases rx with
   |mp _ _ o hk0 ho=>
    have hsh:w.shape? (Addr.mk (G.blk k) off none).block=some (T',arr.size):=by simp[World.shape?,hb]
    refine⟨.pointer (some ⟨G.blk k,off,none⟩),w,G,?_,s.inv,.refl _ _ _,.mp k off o hk0 ho⟩;simp[execOp,hv,Lib.run_to_unsafe w ⟨G.blk k,off,none⟩ hs hd hinfo (by rw[hisz];exact h4) hsh (by rw[hsz'];exact h5)]
  ·rename_i u T cs h1 h2 hk
   cases h
   intro hp _ _ G a w s;obtain⟨h3,h4⟩:=hp;have rx:=s.ev x;rw[ex] at rx;have hs:=(hL src (by rw[h1];simp)).1
   have hd:=(hL d (by rw[h2];simp)).1
   rw[h1] at hs;rw[h2] at hd;simp only[ao0] at hs hd;obtain⟨arr,T',fr,hb,hsz,hr,hf1,hf2,hf3⟩:=s.inv.cells k _ cs hk;obtain⟨rfl,hsz',_⟩:=hf3;obtain⟨_,i,_,hinfo,hisz,_⟩:=hL u (aj7 h3);generalize hv:a.eval x=v at rx;cases rx with
   |mp _ _ o hk0 ho=>
    have hsh:w.shape? (Addr.mk (G.blk k) off none).block=some (T',arr.size):=by simp[World.shape?,hb]
    refine⟨.pointer (some ⟨G.blk k,off,none⟩),w,G,?_,s.inv,.refl _ _ _,.mp k off o hk0 ho⟩;simp[execOp,hv,Lib.run_from_unsafe w ⟨G.blk k,off,none⟩ hs hd hinfo hsh (by rw[hsz'];exact h4)]
  ·cases h
 ·rename_i k off len cap ex
  split at h
  ·rename_i e sh cs h1 h2 hk
   cases h
   intro hp _ _ G a w s;obtain⟨h3,h4,h5⟩:=hp;have rx:=s.ev x;rw[ex] at rx;generalize hv:a.eval x=v at rx;cases rx with
   |msl _ _ _ _ o hk0 ho hcap=>exact b99 hL h1 h2 hk h3 h4 h5 s hv
  ·cases h
 ·rename_i k len ex
  split at h
  ·rename_i e sh cs h1 h2 hk
   cases h
   intro hp _ _ G a w s;obtain⟨h3,h4,h5⟩:=hp;have rx:=s.ev x;rw[ex] at rx;generalize hv:a.eval x=v at rx;cases rx with
   |mrow _ _ o hk0 ho hcap=>
    have:=b99 (dst:=dst) (ty:=ty) (pos:=pos) (after:=after) (guard:=guard) (off:=0) hL h1 h2 hk h3 (by omega) h5 s hv
    simpa using this
  ·cases h
 ·rename_i y _ _ _
  exact cR4 hL h
end
end V
end
section
namespace V
open Go
theorem aq7{w:World}{b j:Nat}{arr:Array Value}{T:TypeId}{fr:Nat×Nat}(h:w.heap[b]?=some (.cells arr T fr)):w.cell? ⟨b,j,none⟩=arr[j]?:=by simp[World.cell?,h]
def a09(y:AV):Option (Nat×List AV):=
 match y with
 |.sl _ z ys=>some (z,ys)
 |.str l=>some (1,l.map o6)
 |_=>none
theorem br0{P:Program}{G:Gh}{H:List AObj}{w:World}{y:AV}{v:Value}(r:Rel G H w y v){z:Nat}{ys:List AV}(hy:a09 y=some (z,ys)){size:Nat}(hz:ys≠[]->z=size)(hs:0 < size):
  (∀w',(Builtin.lenOf v).run P w'=.ok ys.length w')/\(∀x∈ys,x.flat.length=size/\x.okv=true)/\
  ∃vs:List Value,vs.length=(aa2 ys).length/\(∀(j:Nat) x u,(aa2 ys)[j]?=some x->vs[j]?=some u->Rel G H w x u/\u.oneCell'=true)/\
   (∀w',(∀a,w'.cell? a=w.cell? a)->(Builtin.firstCells size ys.length v).run P w'=.ok vs.toArray w'):=by
 have hone: ∀(j:Nat) x u,(∀x∈ys,x.okv=true)->(aa2 ys)[j]?=some x->Rel G H w x u->u.oneCell'=true:=fun j x u hok e ru=>by
  have hx:x.scalar=true:=by
   have hm:=ar7.2 ⟨j,e⟩;obtain⟨y,hy,hxy⟩:=bb8.1 hm;have:=hok y hy;by_cases hg:y.scalar=true
   ·rw[bJ6 hg] at hxy
    simp at hxy
    subst hxy;exact hg
   ·cases y<;>simp_all [AV.okv,AV.flat]
  exact(aU2 ru hx).2.1
 unfold a09 at hy;split at hy
 ·rename_i o z' ys'
  cases hy
  have huni:=r.sl_uni;have hok:=r.sl_okv;rcases bb9 ys.length with h0|h0
  ·have hnil:ys=[]:=aB0 h0
   subst hnil;cases r with
   |sl _ _ _ ad len cap val hl=>
    simp at hl
    subst hl;refine⟨fun w'=>by simp[Builtin.lenOf],fun x hx=>(by cases hx),[],rfl,fun j x u e=>by simp[aa2] at e,fun w' _=>?_⟩
    cases ad with
    |none=>simp[Builtin.firstCells]
    |some ad=>simp[Builtin.firstCells,loadCells,loadCellsFrom]
  ·have hzs:=hz (by intro e;rw[e] at h0;simp at h0)
   subst hzs;obtain⟨b,off,cap,rfl,_,hc⟩:=r.sl_addr hs h0;obtain⟨vs,hl,h1,h2⟩:=aJ0 (G:=G) (H:=H) (w:=w) (b:=b) (off:=off) (aa2 ys) (fun j y e=>(hc j y e).2)
   refine⟨fun w'=>by simp[Builtin.lenOf],fun x hx=>⟨huni x hx,hok x hx⟩,vs,hl,fun j x u e e'=>⟨h2 j x u e e',hone j x u hok e (h2 j x u e e')⟩,fun w' hw'=>?_⟩
   exact run_firstCells_some w' z ys.length ⟨b,off,none⟩ ys.length cap vs (by rw[hl,af5 huni]) (fun j v e=>by rw[addr_add,hw'];exact h1 j v e)
 ·rename_i l
  cases hy
  have hv:=ak9 r;subst hv;have hfl:=au8 o6 (fun _=>rfl) l
  by_cases hnil:l=[]
  ·subst hnil
   refine⟨fun w'=>by simp[Builtin.lenOf];rfl,fun x hx=>(by cases hx),[],rfl,fun j x u e=>by simp[aa2] at e,fun w' _=>?_⟩
   simp[Builtin.firstCells]
  ·have hzs:=hz (by simpa using hnil)
   subst hzs;refine⟨fun w'=>by simp[Builtin.lenOf,size_mk],fun x hx=>?_,l.map fun b=>.int .u8 b.toNat,by rw[hfl];simp,fun j x u e e'=>?_,fun w' _=>?_⟩
   ·obtain⟨b,_,rfl⟩:=xq9.1 hx
    exact⟨rfl,rfl⟩
   ·rw[hfl] at e
    simp only[xq7] at e e';cases hb:l[j]? with
    |none=>rw[hb] at e;cases e
    |some c=>
     rw[hb] at e e';cases e
     cases e'
     exact⟨.lit _,rfl⟩
   ·simp only[Builtin.firstCells,Sem.run_pure]
    congr 1
    apply Array.ext'
    simp
 ·cases hy
def az5(G:Gh)(k:Nat)(a:Option Addr)(cap:Nat):Gh:={G with own:=fun i=>if i=k then(a,cap) else G.own i}
theorem b52(ot:Option TypeId){G:Gh}{H:List AObj}{w:World}(hi:HInv G H w){z:Nat}{xs:List AV}{a:Option Addr}{len cap:Nat}(r:Rel G H w (.sl .full z xs) (.slice a len cap)){s:Nat}(hs:0 < s)(hz:xs≠[]->z=s)(hot:ot≠none->a=none/\cap=0):
  HInv (az5 G H.length a cap) (H++[.grow s xs.length ot]) w/\Step G H w (az5 G H.length a cap) (H++[.grow s xs.length ot]) w/\Rel (az5 G H.length a cap) (H++[.grow s xs.length ot]) w (.sl (.tok H.length) s xs) (.slice a len cap):=by
 have hown: ∀k,k≠H.length->(az5 G H.length a cap).own k=G.own k:=fun k hk=>by simp[az5,hk]
 have hnew:(az5 G H.length a cap).own H.length=(a,cap):=by simp[az5]
 have st:Step G H w (az5 G H.length a cap) (H++[.grow s xs.length ot]) w:=by
  refine⟨rfl,rfl,rfl,xq0 _,fun _ _ h=>h,fun _ _ _=>rfl,fun _ _=>rfl,fun k=>?_⟩
  cases ek:H[k]? with
  |none=>exact bH5 ek (fun _ _ e=>by cases e)
  |some o=>
   have hk:=aa0 ek;have ea:(H++[.grow s xs.length ot])[k]?=some o:=by rw[xq4 hk];exact ek
   cases o with
   |cells t cs=>exact⟨⟨_,ea,rfl⟩,rfl,hown k (by omega)⟩
   |mo x=>exact⟨⟨_,ea,rfl⟩,rfl,hown k (by omega)⟩
   |gone=>exact⟨ea,rfl,hown k (by omega)⟩
   |loop r E=>exact⟨ea,rfl,hown k (by omega)⟩
   |grow s n t=>exact⟨n,ea,xq0 _,fun _=>hown k (by omega)⟩
 have hcl:cap=xs.length:=by
  cases r with
  |sl _ _ _ _ _ _ val hl hcap huni hc hr hf=>rw[hf rfl,hl]
 refine⟨⟨hi.lt,fun k sh cs ek=>?_,fun k s' n t ek=>?_,fun k k' b e1 e2=>?_,hi.tabs.step st fun k x e=>by
  rcases as7 e with⟨hk,e⟩|⟨_,e⟩
  ·exact⟨e,rfl,fun _ h=>h⟩
  ·cases e⟩,st,?_⟩
 ·rcases as7 ek with⟨hk,ek⟩|⟨rfl,ek'⟩
  ·obtain⟨arr,T,fr,hb,hsz,hr,hf1,hf2,hf3⟩:=hi.cells k sh cs ek
   exact⟨arr,T,fr,hb,hsz,fun j x v ex ev=>(hr j x v ex ev).mono st,hf1,hf2,aI5 (hown k (by omega)) hf3⟩
  ·cases ek'
 ·rcases as7 ek with⟨hk,ek⟩|⟨rfl,ek'⟩
  ·rw[hown k (by omega)]
   obtain⟨h1,h2,h3,h4⟩:=hi.grow k s' n t ek;exact⟨h1,h2,h3,aj1 h4 (hown k (by omega)) (xq0 _) (fun b arr e fr hb=>⟨arr,hb,rfl⟩) (fun _ _ _ _ _ _ _ _ _ hx _=>hx)⟩
  ·cases ek'
   rw[hnew];refine⟨hs,aQ7 hcl.symm,fun h=>absurd h (by simp only;omega),fun e he=>.inl ?_⟩
   rw[hnew,(hot (by rw[he];simp)).1,(hot (by rw[he];simp)).2]
 ·have hst: ∀k b,site (az5 G H.length a cap) (H++[.grow s xs.length ot]) k=some b->site G H k=some b:=fun k b e=>by
   unfold site at e⊢;cases ek:(H++[AObj.grow s xs.length ot])[k]? with
   |none=>rw[ek] at e;cases e
   |some o=>
    rw[ek] at e;rcases as7 ek with⟨hk,ek'⟩|⟨rfl,ek'⟩
    ·rw[ek']
     rw[hown k (by omega)] at e
     exact e
    ·subst ek'
     simp only[hnew] at e;cases a with
     |none=>cases e
     |some a=>
      simp only at e;rw[if_neg (by
       rintro(h|⟨h,_⟩)
       ·omega
       ·have:=(hot (by intro h0;rw[h0] at h;cases h)).1
        cases this)] at e
      cases e
  exact hi.apart k k' b (hst k b e1) (hst k' b e2)
 ·cases r with
  |sl _ _ _ _ _ _ val hl hcap huni hc hr hf ha=>
   refine .sl (.tok H.length) s xs _ _ _ val hl hcap (fun x hx=>⟨?_,(huni x hx).2⟩) hc (fun j x e=>(hr j x e).mono st) (fun e=>by cases e) ha (fun k e=>?_)
   ·rw[(huni x hx).1];exact hz (by intro h;rw[h] at hx;cases hx)
   ·cases e
    exact⟨xs.length,ot,bo2,xq0 _,fun _=>hnew⟩
def a04(G:Gh)(b lo hi:Nat):Gh:={G with imm:=fun c j=>G.imm c j\/(c=b/\lo<=j/\j < hi)}
theorem df7{G:Gh}{H:List AObj}{w w':World}(hi:HInv G H w){k s n m:Nat}{ot:Option TypeId}(hk:H[k]?=some (.grow s n ot)){b off:Nat}{arr:Array Value}{T:TypeId}{fr:Nat×Nat}(ea:(G.own k).1=some ⟨b,off,none⟩)
  (hb:w.heap[b]?=some (.cells arr T fr)) (hsz:off+(G.own k).2*s<=arr.size) (hj: ∀j,off+n*s<=j->j < off+(G.own k).2*s-> ¬G.imm b j/\w.frozen? ⟨b,j,none⟩=false) (hm:0 < m) (hcap:n+m<=(G.own k).2)
  {vs:List Value} (hvs:vs.length=m*s) {arr':Array Value} (harr:arr'=(vs.zipIdx 0).foldl (fun cs (x:Value×Nat)=>cs.setIfInBounds (off+n*s+x.2) x.1) arr) (ho:Over b arr' T fr w w'):
  HInv (a04 G b (off+n*s) (off+(n+m)*s)) (H.set k (.grow s (n+m) ot)) w'/\Step G H w (a04 G b (off+n*s) (off+(n+m)*s)) (H.set k (.grow s (n+m) ot)) w'/\
  (∀j,j < m*s->w'.cell? ⟨b,off+n*s+j,none⟩=vs[j]?):=by
 have hs:0 < s:=(hi.grow k s n ot hk).1;have hkl:=aa0 hk;have hle:(n+m)*s<=(G.own k).2*s:=aG2 s hcap;have hms:(n+m)*s=n*s+m*s:=aA1 ..;have hmpos:0 < m*s:=Nat.mul_pos hm hs;have hget:(H.set k (.grow s (n+m) ot))[k]?=some (.grow s (n+m) ot):=by simp[hkl]
 obtain⟨g1,g2⟩:=Great.foldl_set (off+n*s) vs 0 arr;rw[<-harr] at g1 g2;have hsite:site G H k=some b:=aR9 hk (by omega) ea
 have hold: ∀j,¬(off+n*s<=j/\j < off+n*s+m*s)->w'.cell? ⟨b,j,none⟩=w.cell? ⟨b,j,none⟩:=fun j hjn=>by
  rw[aq7 ho.row,aq7 hb,g2 j,if_neg (by rw[hvs];omega)]
 have hnewc: ∀j,j < m*s->w'.cell? ⟨b,off+n*s+j,none⟩=vs[j]?:=fun j hj'=>by
  rw[aq7 ho.row,g2,if_pos (by rw[hvs];omega)]
  simp only[aD8];rw[show off+n*s+j - (off+n*s)=j by omega]
 have hfz: ∀c off,w'.frozen? ⟨c,off,none⟩=w.frozen? ⟨c,off,none⟩:=fun c off=>by
  by_cases e:c=b
  ·subst e;simp[World.frozen?,ho.row,hb]
  ·exact World.frozen?_of_block (w:=w) (ho.other c e)
 have hnb: ¬G.imm b (off+n*s):=(hj _ (xq0 _) (by omega)).1
 have st:Step G H w (a04 G b (off+n*s) (off+(n+m)*s)) (H.set k (.grow s (n+m) ot)) w':=by
  refine⟨congrArg (fun o=>(o,G.lp)) ho.os,ho.tape,ho.output,aQ7 ho.size.symm,fun _ _ h=>.inl h,fun c j h=>?_,fun c h=>ho.other c fun e=>hnb (e▸h _),fun i=>?_⟩
  ·by_cases e:c=b
   ·subst e
    exact hold j fun hin=>(hj j hin.1 (by omega)).1 h
   ·exact World.cell?_of_block (w:=w) (ho.other c e)
  ·cases ei:H[i]? with
   |none=>exact bs1 ei
   |some o=>
    by_cases hik:i=k
    ·subst hik
     rw[hk] at ei;cases ei
     exact⟨n+m,hget,by omega,fun _=>rfl⟩
    ·have ea:(H.set k (.grow s (n+m) ot))[i]?=some o:=by rw[ar6 (fun h=>hik h.symm)];exact ei
     cases o with
     |cells t c=>exact⟨⟨_,ea,rfl⟩,rfl,rfl⟩
     |mo x=>exact⟨⟨_,ea,rfl⟩,rfl,rfl⟩
     |gone=>exact⟨ea,rfl,rfl⟩
     |loop r E=>exact⟨ea,rfl,rfl⟩
     |grow s n t=>exact⟨n,ea,xq0 _,fun _=>rfl⟩
 have himk: ∀(c j:Nat) (a1:Array Value) (e1:TypeId) (f1:Nat×Nat),w.heap[c]?=some (.cells a1 e1 f1)->(a04 G b (off+n*s) (off+(n+m)*s)).imm c j->a1.size<=j->G.imm c j:=fun c j a1 e1 f1 hc h hj1=>by
  rcases h with h|⟨rfl,h5,h6⟩
  ·exact h
  ·rw[hb] at hc
   cases hc
   omega
 refine⟨⟨fun c j h=>?_,fun i sh c ei=>?_,fun i s' n' t ei=>?_,fun i j c e1 e2=>?_,hi.tabs.step st fun i x e=>by
  rcases af6 e with⟨hik,e⟩|⟨_,e,_⟩
  ·have hne:=hi.mo_apart e hsite hik
   exact⟨e,ho.other _ hne,fun _ h=>h.elim id fun h=>absurd h.1 hne⟩
  ·cases e⟩,st,hnewc⟩
 ·rw[ho.size]
  rcases h with h|⟨rfl,_⟩
  ·exact hi.lt c j h
  ·exact au1 hb
 ·rcases af6 ei with⟨hik,ei'⟩|⟨rfl,ei',_⟩
  ·obtain⟨a1,T1,f1,hb1,hs1,hr1,hg1,hg2,hg3⟩:=hi.cells i sh c ei'
   have hne:G.blk i≠b:=fun e=>hik (hi.apart i k b (by simp[site,ei',e]) hsite)
   refine⟨a1,T1,f1,(ho.other _ hne).trans hb1,hs1,fun j x v ex ev=>(hr1 j x v ex ev).mono st,fun off h=>?_,fun off h=>(hfz _ _).trans (hg2 off h),hg3⟩
   rcases h with h|⟨h,_⟩
   ·exact hg1 off h
   ·exact hne h
  ·cases ei'
 ·rcases af6 ei with⟨hik,ei'⟩|⟨rfl,ei',_⟩
  ·obtain⟨h0,h1,h2,hty⟩:=hi.grow i s' n' t ei'
   refine⟨h0,h1,fun hn=>?_,aj1 hty rfl (xq0 _) (ho.rows hb g1) (fun c j a1 e1 f1 hc _ _ _ h hj=>himk c j a1 e1 f1 hc h hj)⟩
   obtain⟨b1,off1,a1,T1,f1,ea1,hb1,hsz1,hj1⟩:=h2 hn;have hne:b1≠b:=fun e=>hik (hi.apart i k b (e▸aR9 ei' hn ea1) hsite)
   refine⟨b1,off1,a1,T1,f1,ea1,(ho.other _ hne).trans hb1,hsz1,fun j h3 h4=>⟨?_,(hfz _ _).trans (hj1 j h3 h4).2⟩⟩
   rintro(h|⟨h,_⟩)
   ·exact(hj1 j h3 h4).1 h
   ·exact hne h
  ·cases ei'
   refine⟨hs,hcap,fun hn=>?_,aj1 (hi.grow i s n ot hk).2.2.2 rfl (by omega) (ho.rows hb g1) (fun c j a1 e1 f1 hc _ _ _ h hj=>himk c j a1 e1 f1 hc h hj)⟩
   refine⟨b,off,arr',T,fr,ea,ho.row,by rw[g1];exact hsz,fun j h3 h4=>⟨?_,(hfz _ _).trans (hj j (by omega) h4).2⟩⟩
   rintro(h|⟨_,h5,h6⟩)
   ·exact(hj j (by omega) h4).1 h
   ·omega
 ·have hst: ∀i c,site (a04 G b (off+n*s) (off+(n+m)*s)) (H.set k (.grow s (n+m) ot)) i=some c->site G H i=some c:=fun i c e=>by
   by_cases hik:i=k
   ·subst hik
    unfold site at e;rw[hget] at e;rw[hsite];have:(a04 G b (off+n*s) (off+(n+m)*s)).own i=(some ⟨b,off,none⟩,(G.own i).2):=by rw[<-ea];rfl
    rw[this] at e;simp only at e;split at e
    ·cases e;rfl
    ·cases e
   ·unfold site at e⊢
    rw[ar6 (fun h=>hik h.symm)] at e
    exact e
  exact hi.apart i j c (hst i c e1) (hst j c e2)
def aV5(G:Gh)(k b hi cap:Nat):Gh:={imm:=fun c j=>G.imm c j\/(c=b/\j < hi),blk:=G.blk,own:=fun i=>if i=k then(some ⟨b,0,none⟩,cap) else G.own i,lp:=G.lp}
theorem df6{G:Gh}{H:List AObj}{w w1:World}(hi:HInv G H w)(hm1:More w w1)(hsz1:w1.heap.size=w.heap.size){k s n m:Nat}{ot:Option TypeId}(hk:H[k]?=some (.grow s n ot))(hm:0 < m){cap:Nat}(hcap:n+m<=cap){arr:Array Value}{e:TypeId}
  (harr:arr.size=cap*s) (hot: ∀e',ot=some e'->e'=e):
  HInv (aV5 G k w.heap.size ((n+m)*s) cap) (H.set k (.grow s (n+m) ot)) (w1.alloc (.cells arr e))/\Step G H w (aV5 G k w.heap.size ((n+m)*s) cap) (H.set k (.grow s (n+m) ot)) (w1.alloc (.cells arr e))/\
  (∀j,(w1.alloc (.cells arr e)).cell? ⟨w.heap.size,j,none⟩=arr[j]?):=by
 have hs:0 < s:=(hi.grow k s n ot hk).1;have hkl:=aa0 hk;have hm':=hm1.alloc (.cells arr e);have hb:(w1.alloc (.cells arr e)).heap[w.heap.size]?=some (.cells arr e):=by
  show (w1.heap.push (.cells arr e))[w.heap.size]?=_
  rw[<-hsz1];simp
 have hget:(H.set k (.grow s (n+m) ot))[k]?=some (.grow s (n+m) ot):=by simp[hkl]
 have hown: ∀i,i≠k->(aV5 G k w.heap.size ((n+m)*s) cap).own i=G.own i:=fun i hi=>by simp[aV5,hi]
 have hnew:(aV5 G k w.heap.size ((n+m)*s) cap).own k=(some ⟨w.heap.size,0,none⟩,cap):=by simp[aV5]
 have st:Step G H w (aV5 G k w.heap.size ((n+m)*s) cap) (H.set k (.grow s (n+m) ot)) (w1.alloc (.cells arr e)):=by
  refine⟨congrArg (fun o=>(o,G.lp)) hm'.os,hm'.tape,hm'.output,hm'.size,fun _ _ h=>.inl h,fun c j h=>World.cell?_of_block (w:=w) (hm'.old c (hi.lt c j h)),fun c h=>hm'.old c (hi.lt c 0 (h 0)),fun i=>?_⟩
  cases ei:H[i]? with
  |none=>exact bs1 ei
  |some o=>
   by_cases hik:i=k
   ·subst hik
    rw[hk] at ei;cases ei
    exact⟨n+m,hget,by omega,fun h=>by omega⟩
   ·have ea:(H.set k (.grow s (n+m) ot))[i]?=some o:=by rw[ar6 (fun h=>hik h.symm)];exact ei
    cases o with
    |cells t c=>exact⟨⟨_,ea,rfl⟩,rfl,hown i hik⟩
    |mo x=>exact⟨⟨_,ea,rfl⟩,rfl,hown i hik⟩
    |gone=>exact⟨ea,rfl,hown i hik⟩
    |loop r E=>exact⟨ea,rfl,hown i hik⟩
    |grow s n t=>exact⟨n,ea,xq0 _,fun _=>hown i hik⟩
 refine⟨⟨fun c j h=>?_,fun i sh c ei=>?_,fun i s' n' t ei=>?_,fun i j c e1 e2=>?_,hi.tabs.step st fun i x e=>by
  rcases af6 e with⟨hik,e⟩|⟨_,e,_⟩
  ·exact⟨e,hm'.old _ (hi.mo_lt e),fun _ h=>h.elim id fun h=>absurd (hi.mo_lt e) (by rw[h.1];exact bc6 _)⟩
  ·cases e⟩,st,fun j=>by simp[World.cell?,hb]⟩
 ·rcases h with h|⟨rfl,_⟩
  ·exact aB2 (hi.lt c j h) hm'.size
  ·exact au1 hb
 ·rcases af6 ei with⟨hik,ei'⟩|⟨rfl,ei',_⟩
  ·obtain⟨a1,T1,f1,hb1,hs1,hr1,hg1,hg2,hg3⟩:=hi.cells i sh c ei'
   have hlt:=au1 hb1;refine⟨a1,T1,f1,(hm'.old _ hlt).trans hb1,hs1,fun j x v ex ev=>(hr1 j x v ex ev).mono st,fun off h=>?_,fun off h=>(World.frozen?_of_block (w:=w) (hm'.old _ hlt)).trans (hg2 off h),aI5 (hown i hik) hg3⟩
   rcases h with h|⟨h,_⟩
   ·exact hg1 off h
   ·have:G.blk i=w.heap.size:=h
    omega
  ·cases ei'
 ·rcases af6 ei with⟨hik,ei'⟩|⟨rfl,ei',_⟩
  ·rw[hown i hik]
   obtain⟨h0,h1,h2,hty⟩:=hi.grow i s' n' t ei';refine⟨h0,h1,fun hn=>?_,aj1 hty (hown i hik) (xq0 _) (fun b arr e fr hb=>⟨arr,(hm'.old _ (au1 hb)).trans hb,rfl⟩) fun b off a1 e1 f1 hb1 _ _ _ hx _=>by
    rcases hx with hx|⟨rfl,_⟩
    ·exact hx
    ·exact absurd (au1 hb1) (bc6 _)⟩
   obtain⟨b1,off1,a1,T1,f1,ea1,hb1,hsz1',hj1⟩:=h2 hn;have hlt:=au1 hb1;refine⟨b1,off1,a1,T1,f1,ea1,(hm'.old _ hlt).trans hb1,hsz1',fun j h3 h4=>⟨?_,(World.frozen?_of_block (w:=w) (hm'.old _ hlt)).trans (hj1 j h3 h4).2⟩⟩
   rintro(h|⟨h,_⟩)
   ·exact(hj1 j h3 h4).1 h
   ·omega
  ·cases ei'
   rw[hnew];refine⟨hs,hcap,fun hn=>⟨w.heap.size,0,arr,e,(0,0),rfl,hb,by rw[harr];simp,fun j h3 h4=>⟨?_,?_⟩⟩,fun e' he'=>.inr ⟨w.heap.size,arr,(0,0),by rw[hnew],by rw[hnew];show 0 < cap;omega,by rw[hot e' he'];exact hb,by rw[hnew];exact harr,.inl rfl,fun off' hl hx=>by
    have hcs:(n+m)*s<=cap*s:=aG2 s hcap;rcases hx with hx|⟨_,hx⟩
    ·exact bc6 _ (hi.lt _ _ hx)
    ·omega⟩⟩
   ·rintro(h|⟨_,h⟩)
    ·exact bc6 _ (hi.lt _ j h)
    ·omega
   ·simp[World.frozen?,hb]
 ·have hst: ∀i c,site (aV5 G k w.heap.size ((n+m)*s) cap) (H.set k (.grow s (n+m) ot)) i=some c->(i≠k/\site G H i=some c)\/(i=k/\c=w.heap.size):=fun i c e=>by
   by_cases hik:i=k
   ·right
    subst hik;unfold site at e;rw[hget] at e;simp only[hnew] at e;split at e
    ·cases e;exact⟨rfl,rfl⟩
    ·cases e
   ·left
    refine⟨hik,?_⟩;unfold site at e⊢;rw[ar6 (fun h=>hik h.symm),hown i hik] at e
    exact e
  rcases hst i c e1 with⟨h1,h2⟩|⟨h1,h2⟩<;>rcases hst j c e2 with⟨h3,h4⟩|⟨h3,h4⟩
  ·exact hi.apart i j c h2 h4
  ·have:=hi.site_lt h2;omega
  ·have:=hi.site_lt h4;omega
  ·omega
end V
end
end Go.Proofs.YtdkpdjfimckdgaaGreatDoor
